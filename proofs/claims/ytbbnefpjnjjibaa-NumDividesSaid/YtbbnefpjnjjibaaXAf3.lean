-- Written by xprint.py, a program of mine that runs over the print of the translation. Lean checks it.
import Derived.Test.YtbbnefpjnjjibaaXAf0
import Derived.Test.YtbbnefpjnjjibaaXAf1
import Derived.Test.YtbbnefpjnjjibaaXAf2
namespace Go.Proofs.Ytbbnefpjnjjibaa.XA
open Go.RowKit Go.Proofs.YtbbnefpjnjjibaaW.PrintWords Go.Proofs.YtbbnefpjnjjibaaW.PrintLast Go.Proofs.YtbbnefpjnjjibaaW.PrintMore
attribute [local go_sem] max2_int min2_int max_two min_two max_three min_three max_four min_four   -- for this text's walks alone
set_option linter.unusedVariables false
set_option linter.unusedSimpArgs false

/-! ### parolelaw01_NumRing: function 3 -/
mutual
def parolelaw01_NumRing.j0 : Nat → Bool → Int → Int → Int → Int → Int → Bool → Option (Bool)
  | 0, _, _, _, _, _, _, _ => none
  | k + 1, x7, x8, x9, x10, x11, x12, x67 => if x67 = true then (some false) else ((num_Op.f 4 x11 x10).bind fun t196 => ((num_Op.f 4 x9 x10).bind fun t197 => ((num_Op.f 4 x8 t197).bind fun t198 => (if t196 = t198 then ((num_Op.f 6 x12 x10).bind fun t199 => ((num_Op.f 6 x9 x10).bind fun t200 => ((num_Op.f 6 x8 t200).bind fun t201 => (if t199 = t201 then ((num_Op.f 4 x9 x8).bind fun t202 => (if x11 = t202 then ((num_Op.f 6 x9 x8).bind fun t203 => (parolelaw01_NumRing.j1 k x7 x8 x9 x10 x11 (x12 != t203))) else (parolelaw01_NumRing.j1 k x7 x8 x9 x10 x11 true))) else (parolelaw01_NumRing.j1 k x7 x8 x9 x10 x11 true))))) else (parolelaw01_NumRing.j1 k x7 x8 x9 x10 x11 true)))))
def parolelaw01_NumRing.j1 : Nat → Bool → Int → Int → Int → Int → Bool → Option (Bool)
  | 0, _, _, _, _, _, _ => none
  | k + 1, x7, x8, x9, x10, x11, x101 => if x101 = true then (some false) else ((num_Op.f 6 x11 x10).bind fun t204 => ((num_Op.f 6 x8 x10).bind fun t205 => ((num_Op.f 6 x9 x10).bind fun t206 => ((num_Op.f 4 t205 t206).bind fun t207 => (if t204 = t207 then ((num_Op.f 5 x8 x9).bind fun t208 => ((num_Op.f 4 t208 x9).bind fun t209 => (if t209 = x8 then (some x7) else (some false)))) else (some false))))))
end
def parolelaw01_NumRing.f (k : Nat) (a0 : Int) (a1 : Int) (a2 : Int) : Option (Bool) := (parolelaw01_examples.f k).bind fun t189 => (if t189 = true then ((num_Op.f 4 (wrap64 (a0)) (wrap64 (a1))).bind fun t190 => ((num_Op.f 6 (wrap64 (a0)) (wrap64 (a1))).bind fun t191 => ((parolelaw01_congruent.f t190 (wrap64 ((wrap64 (a0)) + (wrap64 (a1))))).bind fun t192 => (if t192 = true then ((parolelaw01_congruent.f t191 (wrap64 ((wrap64 (a0)) * (wrap64 (a1))))).bind fun t193 => (if t193 = true then ((num_Op.f 5 (wrap64 (a0)) (wrap64 (a1))).bind fun t194 => ((parolelaw01_congruent.f t194 (wrap64 ((wrap64 (a0)) - (wrap64 (a1))))).bind fun t195 => (if t195 = true then (if t190 < (-2147483648) then (parolelaw01_NumRing.j0 k t189 (wrap64 (a0)) (wrap64 (a1)) (wrap64 (a2)) t190 t191 true) else (if t190 > 2147483647 then (parolelaw01_NumRing.j0 k t189 (wrap64 (a0)) (wrap64 (a1)) (wrap64 (a2)) t190 t191 true) else (if t191 < (-2147483648) then (parolelaw01_NumRing.j0 k t189 (wrap64 (a0)) (wrap64 (a1)) (wrap64 (a2)) t190 t191 true) else (parolelaw01_NumRing.j0 k t189 (wrap64 (a0)) (wrap64 (a1)) (wrap64 (a2)) t190 t191 (decide (t191 > 2147483647)))))) else (parolelaw01_NumRing.j0 k t189 (wrap64 (a0)) (wrap64 (a1)) (wrap64 (a2)) t190 t191 true)))) else (parolelaw01_NumRing.j0 k t189 (wrap64 (a0)) (wrap64 (a1)) (wrap64 (a2)) t190 t191 true))) else (parolelaw01_NumRing.j0 k t189 (wrap64 (a0)) (wrap64 (a1)) (wrap64 (a2)) t190 t191 true))))) else (some false))
theorem parolelaw01_NumRing.mono_l : ∀ k, (∀ y0 y1 y2 y3 y4 y5 y6, LeO (parolelaw01_NumRing.j0 k y0 y1 y2 y3 y4 y5 y6) (parolelaw01_NumRing.j0 (k + 1) y0 y1 y2 y3 y4 y5 y6)) ∧ (∀ y0 y1 y2 y3 y4 y5, LeO (parolelaw01_NumRing.j1 k y0 y1 y2 y3 y4 y5) (parolelaw01_NumRing.j1 (k + 1) y0 y1 y2 y3 y4 y5))
  | 0 => ⟨fun _ _ _ _ _ _ _ r h => by simp [parolelaw01_NumRing.j0] at h, fun _ _ _ _ _ _ r h => by simp [parolelaw01_NumRing.j1] at h⟩
  | k + 1 => by
    obtain ⟨ih0, ih1⟩ := parolelaw01_NumRing.mono_l k
    refine ⟨?_, ?_⟩
    · intro y0 y1 y2 y3 y4 y5 y6
      unfold parolelaw01_NumRing.j0
      repeat' first
      | (with_reducible exact ih0 _ _ _ _ _ _ _)
      | (with_reducible exact ih1 _ _ _ _ _ _)
      | (with_reducible exact parolelaw01_examples.mono _)
      | (with_reducible exact LeO.refl _)
      | (with_reducible exact LeO.none _)
      | (with_reducible refine LeO.ite ?_ ?_)
      | (with_reducible refine LeO.bind ?_ (fun _ => ?_))
      | exact ih0 _ _ _ _ _ _ _
      | exact ih1 _ _ _ _ _ _
      | exact parolelaw01_examples.mono _
      | exact LeO.none _
      | refine LeO.ite ?_ ?_
      | refine LeO.bind ?_ (fun _ => ?_)
    · intro y0 y1 y2 y3 y4 y5
      unfold parolelaw01_NumRing.j1
      repeat' first
      | (with_reducible exact ih0 _ _ _ _ _ _ _)
      | (with_reducible exact ih1 _ _ _ _ _ _)
      | (with_reducible exact parolelaw01_examples.mono _)
      | (with_reducible exact LeO.refl _)
      | (with_reducible exact LeO.none _)
      | (with_reducible refine LeO.ite ?_ ?_)
      | (with_reducible refine LeO.bind ?_ (fun _ => ?_))
      | exact ih0 _ _ _ _ _ _ _
      | exact ih1 _ _ _ _ _ _
      | exact parolelaw01_examples.mono _
      | exact LeO.none _
      | refine LeO.ite ?_ ?_
      | refine LeO.bind ?_ (fun _ => ?_)
theorem parolelaw01_NumRing.mono : ∀ a0 a1 a2 k, LeO (parolelaw01_NumRing.f k a0 a1 a2) (parolelaw01_NumRing.f (k + 1) a0 a1 a2) := by
  intro a0 a1 a2 k
  obtain ⟨ih0, ih1⟩ := parolelaw01_NumRing.mono_l k
  unfold parolelaw01_NumRing.f
  repeat' first
      | (with_reducible exact ih0 _ _ _ _ _ _ _)
      | (with_reducible exact ih1 _ _ _ _ _ _)
      | (with_reducible exact parolelaw01_examples.mono _)
      | (with_reducible exact LeO.refl _)
      | (with_reducible exact LeO.none _)
      | (with_reducible refine LeO.ite ?_ ?_)
      | (with_reducible refine LeO.bind ?_ (fun _ => ?_))
      | exact ih0 _ _ _ _ _ _ _
      | exact ih1 _ _ _ _ _ _
      | exact parolelaw01_examples.mono _
      | exact LeO.none _
      | refine LeO.ite ?_ ?_
      | refine LeO.bind ?_ (fun _ => ?_)
set_option maxHeartbeats 8000000 in
set_option maxRecDepth 100000 in
theorem parolelaw01_NumRing.calls (k : Nat) (a0 : Int) (a1 : Int) (a2 : Int) (r : Bool) (w : World) (h : parolelaw01_NumRing.f k a0 a1 a2 = some r) :
    Calls Try.prog 3 #[.int .i32 a0, .int .i32 a1, .int .i32 a2] w fun e w' => e = .returned (.bool r) ∧ Below w.heap.size w w' := by
  have HB := Aside0.mk (Below.refl w.heap.size w)
  have H : ((parolelaw01_examples.f k).bind fun t189 => (if t189 = true then ((num_Op.f 4 (wrap64 (a0)) (wrap64 (a1))).bind fun t190 => ((num_Op.f 6 (wrap64 (a0)) (wrap64 (a1))).bind fun t191 => ((parolelaw01_congruent.f t190 (wrap64 ((wrap64 (a0)) + (wrap64 (a1))))).bind fun t192 => (if t192 = true then ((parolelaw01_congruent.f t191 (wrap64 ((wrap64 (a0)) * (wrap64 (a1))))).bind fun t193 => (if t193 = true then ((num_Op.f 5 (wrap64 (a0)) (wrap64 (a1))).bind fun t194 => ((parolelaw01_congruent.f t194 (wrap64 ((wrap64 (a0)) - (wrap64 (a1))))).bind fun t195 => (if t195 = true then (if t190 < (-2147483648) then (parolelaw01_NumRing.j0 k t189 (wrap64 (a0)) (wrap64 (a1)) (wrap64 (a2)) t190 t191 true) else (if t190 > 2147483647 then (parolelaw01_NumRing.j0 k t189 (wrap64 (a0)) (wrap64 (a1)) (wrap64 (a2)) t190 t191 true) else (if t191 < (-2147483648) then (parolelaw01_NumRing.j0 k t189 (wrap64 (a0)) (wrap64 (a1)) (wrap64 (a2)) t190 t191 true) else (parolelaw01_NumRing.j0 k t189 (wrap64 (a0)) (wrap64 (a1)) (wrap64 (a2)) t190 t191 (decide (t191 > 2147483647)))))) else (parolelaw01_NumRing.j0 k t189 (wrap64 (a0)) (wrap64 (a1)) (wrap64 (a2)) t190 t191 true)))) else (parolelaw01_NumRing.j0 k t189 (wrap64 (a0)) (wrap64 (a1)) (wrap64 (a2)) t190 t191 true))) else (parolelaw01_NumRing.j0 k t189 (wrap64 (a0)) (wrap64 (a1)) (wrap64 (a2)) t190 t191 true))))) else (some false))) = some r := h
  clear h
  replace H := Option.bind_eq_some_iff.mp H
  obtain ⟨t189, A40, H⟩ := H
  replace H : (if t189 = true then ((num_Op.f 4 (wrap64 (a0)) (wrap64 (a1))).bind fun t190 => ((num_Op.f 6 (wrap64 (a0)) (wrap64 (a1))).bind fun t191 => ((parolelaw01_congruent.f t190 (wrap64 ((wrap64 (a0)) + (wrap64 (a1))))).bind fun t192 => (if t192 = true then ((parolelaw01_congruent.f t191 (wrap64 ((wrap64 (a0)) * (wrap64 (a1))))).bind fun t193 => (if t193 = true then ((num_Op.f 5 (wrap64 (a0)) (wrap64 (a1))).bind fun t194 => ((parolelaw01_congruent.f t194 (wrap64 ((wrap64 (a0)) - (wrap64 (a1))))).bind fun t195 => (if t195 = true then (if t190 < (-2147483648) then (parolelaw01_NumRing.j0 k t189 (wrap64 (a0)) (wrap64 (a1)) (wrap64 (a2)) t190 t191 true) else (if t190 > 2147483647 then (parolelaw01_NumRing.j0 k t189 (wrap64 (a0)) (wrap64 (a1)) (wrap64 (a2)) t190 t191 true) else (if t191 < (-2147483648) then (parolelaw01_NumRing.j0 k t189 (wrap64 (a0)) (wrap64 (a1)) (wrap64 (a2)) t190 t191 true) else (parolelaw01_NumRing.j0 k t189 (wrap64 (a0)) (wrap64 (a1)) (wrap64 (a2)) t190 t191 (decide (t191 > 2147483647)))))) else (parolelaw01_NumRing.j0 k t189 (wrap64 (a0)) (wrap64 (a1)) (wrap64 (a2)) t190 t191 true)))) else (parolelaw01_NumRing.j0 k t189 (wrap64 (a0)) (wrap64 (a1)) (wrap64 (a2)) t190 t191 true))) else (parolelaw01_NumRing.j0 k t189 (wrap64 (a0)) (wrap64 (a1)) (wrap64 (a2)) t190 t191 true))))) else (some false)) = some r := H
  have A4 := Aside0.mk A40
  clear A40
  by_cases c5 : t189 = true
  · subst c5
    have H1 : ((num_Op.f 4 (wrap64 (a0)) (wrap64 (a1))).bind fun t190 => ((num_Op.f 6 (wrap64 (a0)) (wrap64 (a1))).bind fun t191 => ((parolelaw01_congruent.f t190 (wrap64 ((wrap64 (a0)) + (wrap64 (a1))))).bind fun t192 => (if t192 = true then ((parolelaw01_congruent.f t191 (wrap64 ((wrap64 (a0)) * (wrap64 (a1))))).bind fun t193 => (if t193 = true then ((num_Op.f 5 (wrap64 (a0)) (wrap64 (a1))).bind fun t194 => ((parolelaw01_congruent.f t194 (wrap64 ((wrap64 (a0)) - (wrap64 (a1))))).bind fun t195 => (if t195 = true then (if t190 < (-2147483648) then (parolelaw01_NumRing.j0 k true (wrap64 (a0)) (wrap64 (a1)) (wrap64 (a2)) t190 t191 true) else (if t190 > 2147483647 then (parolelaw01_NumRing.j0 k true (wrap64 (a0)) (wrap64 (a1)) (wrap64 (a2)) t190 t191 true) else (if t191 < (-2147483648) then (parolelaw01_NumRing.j0 k true (wrap64 (a0)) (wrap64 (a1)) (wrap64 (a2)) t190 t191 true) else (parolelaw01_NumRing.j0 k true (wrap64 (a0)) (wrap64 (a1)) (wrap64 (a2)) t190 t191 (decide (t191 > 2147483647)))))) else (parolelaw01_NumRing.j0 k true (wrap64 (a0)) (wrap64 (a1)) (wrap64 (a2)) t190 t191 true)))) else (parolelaw01_NumRing.j0 k true (wrap64 (a0)) (wrap64 (a1)) (wrap64 (a2)) t190 t191 true))) else (parolelaw01_NumRing.j0 k true (wrap64 (a0)) (wrap64 (a1)) (wrap64 (a2)) t190 t191 true))))) = some r := by rw [if_pos rfl] at H; exact H
    clear H
    have H := H1
    clear H1
    replace H := Option.bind_eq_some_iff.mp H
    obtain ⟨t190, A60, H⟩ := H
    replace H : ((num_Op.f 6 (wrap64 (a0)) (wrap64 (a1))).bind fun t191 => ((parolelaw01_congruent.f t190 (wrap64 ((wrap64 (a0)) + (wrap64 (a1))))).bind fun t192 => (if t192 = true then ((parolelaw01_congruent.f t191 (wrap64 ((wrap64 (a0)) * (wrap64 (a1))))).bind fun t193 => (if t193 = true then ((num_Op.f 5 (wrap64 (a0)) (wrap64 (a1))).bind fun t194 => ((parolelaw01_congruent.f t194 (wrap64 ((wrap64 (a0)) - (wrap64 (a1))))).bind fun t195 => (if t195 = true then (if t190 < (-2147483648) then (parolelaw01_NumRing.j0 k true (wrap64 (a0)) (wrap64 (a1)) (wrap64 (a2)) t190 t191 true) else (if t190 > 2147483647 then (parolelaw01_NumRing.j0 k true (wrap64 (a0)) (wrap64 (a1)) (wrap64 (a2)) t190 t191 true) else (if t191 < (-2147483648) then (parolelaw01_NumRing.j0 k true (wrap64 (a0)) (wrap64 (a1)) (wrap64 (a2)) t190 t191 true) else (parolelaw01_NumRing.j0 k true (wrap64 (a0)) (wrap64 (a1)) (wrap64 (a2)) t190 t191 (decide (t191 > 2147483647)))))) else (parolelaw01_NumRing.j0 k true (wrap64 (a0)) (wrap64 (a1)) (wrap64 (a2)) t190 t191 true)))) else (parolelaw01_NumRing.j0 k true (wrap64 (a0)) (wrap64 (a1)) (wrap64 (a2)) t190 t191 true))) else (parolelaw01_NumRing.j0 k true (wrap64 (a0)) (wrap64 (a1)) (wrap64 (a2)) t190 t191 true)))) = some r := H
    have A6 := Aside0.mk A60
    clear A60
    replace H := Option.bind_eq_some_iff.mp H
    obtain ⟨t191, A70, H⟩ := H
    replace H : ((parolelaw01_congruent.f t190 (wrap64 ((wrap64 (a0)) + (wrap64 (a1))))).bind fun t192 => (if t192 = true then ((parolelaw01_congruent.f t191 (wrap64 ((wrap64 (a0)) * (wrap64 (a1))))).bind fun t193 => (if t193 = true then ((num_Op.f 5 (wrap64 (a0)) (wrap64 (a1))).bind fun t194 => ((parolelaw01_congruent.f t194 (wrap64 ((wrap64 (a0)) - (wrap64 (a1))))).bind fun t195 => (if t195 = true then (if t190 < (-2147483648) then (parolelaw01_NumRing.j0 k true (wrap64 (a0)) (wrap64 (a1)) (wrap64 (a2)) t190 t191 true) else (if t190 > 2147483647 then (parolelaw01_NumRing.j0 k true (wrap64 (a0)) (wrap64 (a1)) (wrap64 (a2)) t190 t191 true) else (if t191 < (-2147483648) then (parolelaw01_NumRing.j0 k true (wrap64 (a0)) (wrap64 (a1)) (wrap64 (a2)) t190 t191 true) else (parolelaw01_NumRing.j0 k true (wrap64 (a0)) (wrap64 (a1)) (wrap64 (a2)) t190 t191 (decide (t191 > 2147483647)))))) else (parolelaw01_NumRing.j0 k true (wrap64 (a0)) (wrap64 (a1)) (wrap64 (a2)) t190 t191 true)))) else (parolelaw01_NumRing.j0 k true (wrap64 (a0)) (wrap64 (a1)) (wrap64 (a2)) t190 t191 true))) else (parolelaw01_NumRing.j0 k true (wrap64 (a0)) (wrap64 (a1)) (wrap64 (a2)) t190 t191 true))) = some r := H
    have A7 := Aside0.mk A70
    clear A70
    have HC8 := Aside0.mk H
    clear H
    go_enter Try.func3, Try.ntmps3
    go_upto_region 6 with (first | ((with_reducible refine gate_callee (f := 10) rfl ?_); refine goesL_ (some 13) rfl rfl Try.func10 (by kernel_rfl) rfl #[] rfl (by (try simp only [List.map_toArray, List.map_cons, List.map_nil]); first | done | rfl | (simp only [List.length_drop, List.length_take]; rfl)) ?_; (with_reducible refine (parolelaw01_examples.calls k  true _ A4.out).mono ?_); rintro e w9 ⟨rfl, hb⟩; refine ⟨_, rfl, ?_⟩; have n0_ := Aside0.mk (below_step (by repeat (first | (with_reducible first | exact HB.out | apply below_alloc | apply pw_below_drewN | apply below_drew1) | exact HB.out)) hb); clear HB; have HB := n0_; clear n0_; (try clear hb); (try clear hb2); (try clear hk); (try clear hi)) | ((with_reducible refine gate_callee (f := 11) rfl ?_); refine goesL_ (some 24) rfl rfl Try.func11 (by kernel_rfl) rfl #[.int .i64 4, .int .i64 (wrap64 (a0)), .int .i64 (wrap64 (a1))] rfl (by (try simp only [List.map_toArray, List.map_cons, List.map_nil]); first | done | rfl | (simp only [List.length_drop, List.length_take]; rfl)) ?_; (with_reducible refine (num_Op.calls 4 (wrap64 (a0)) (wrap64 (a1)) t190 _ A6.out).mono ?_); rintro e w10 ⟨rfl, hb⟩; refine ⟨_, rfl, ?_⟩; have n0_ := Aside0.mk (below_step (by repeat (first | (with_reducible first | exact HB.out | apply below_alloc | apply pw_below_drewN | apply below_drew1) | exact HB.out)) hb); clear HB; have HB := n0_; clear n0_; (try clear hb); (try clear hb2); (try clear hk); (try clear hi)) | ((with_reducible refine gate_callee (f := 11) rfl ?_); refine goesL_ (some 27) rfl rfl Try.func11 (by kernel_rfl) rfl #[.int .i64 6, .int .i64 (wrap64 (a0)), .int .i64 (wrap64 (a1))] rfl (by (try simp only [List.map_toArray, List.map_cons, List.map_nil]); first | done | rfl | (simp only [List.length_drop, List.length_take]; rfl)) ?_; (with_reducible refine (num_Op.calls 6 (wrap64 (a0)) (wrap64 (a1)) t191 _ A7.out).mono ?_); rintro e w11 ⟨rfl, hb⟩; refine ⟨_, rfl, ?_⟩; have n0_ := Aside0.mk (below_step (by repeat (first | (with_reducible first | exact HB.out | apply below_alloc | apply pw_below_drewN | apply below_drew1) | exact HB.out)) hb); clear HB; have HB := n0_; clear n0_; (try clear hb); (try clear hb2); (try clear hk); (try clear hi)))
    (try simp only [Act.put, List.setIfInBounds_toArray, List.set_cons_zero, List.set_cons_succ])
    go_cut [67] (fun v67 wc => ∃ (kq : Nat) (x67_7 : Bool), v67 = .bool x67_7 ∧ Aside0 (parolelaw01_NumRing.j0 kq true (wrap64 (a0)) (wrap64 (a1)) (wrap64 (a2)) t190 t191 x67_7 = some r) ∧ Aside0 (kq ≤ k) ∧ Aside0 (Below w.heap.size w wc))
    case first =>
      have H := HC8.out
      clear HC8
      replace H := Option.bind_eq_some_iff.mp H
      obtain ⟨t192, A120, H⟩ := H
      replace H : (if t192 = true then ((parolelaw01_congruent.f t191 (wrap64 ((wrap64 (a0)) * (wrap64 (a1))))).bind fun t193 => (if t193 = true then ((num_Op.f 5 (wrap64 (a0)) (wrap64 (a1))).bind fun t194 => ((parolelaw01_congruent.f t194 (wrap64 ((wrap64 (a0)) - (wrap64 (a1))))).bind fun t195 => (if t195 = true then (if t190 < (-2147483648) then (parolelaw01_NumRing.j0 k true (wrap64 (a0)) (wrap64 (a1)) (wrap64 (a2)) t190 t191 true) else (if t190 > 2147483647 then (parolelaw01_NumRing.j0 k true (wrap64 (a0)) (wrap64 (a1)) (wrap64 (a2)) t190 t191 true) else (if t191 < (-2147483648) then (parolelaw01_NumRing.j0 k true (wrap64 (a0)) (wrap64 (a1)) (wrap64 (a2)) t190 t191 true) else (parolelaw01_NumRing.j0 k true (wrap64 (a0)) (wrap64 (a1)) (wrap64 (a2)) t190 t191 (decide (t191 > 2147483647)))))) else (parolelaw01_NumRing.j0 k true (wrap64 (a0)) (wrap64 (a1)) (wrap64 (a2)) t190 t191 true)))) else (parolelaw01_NumRing.j0 k true (wrap64 (a0)) (wrap64 (a1)) (wrap64 (a2)) t190 t191 true))) else (parolelaw01_NumRing.j0 k true (wrap64 (a0)) (wrap64 (a1)) (wrap64 (a2)) t190 t191 true)) = some r := H
      have A12 := Aside0.mk A120
      clear A120
      by_cases c13 : t192 = true
      · subst c13
        have H1 : ((parolelaw01_congruent.f t191 (wrap64 ((wrap64 (a0)) * (wrap64 (a1))))).bind fun t193 => (if t193 = true then ((num_Op.f 5 (wrap64 (a0)) (wrap64 (a1))).bind fun t194 => ((parolelaw01_congruent.f t194 (wrap64 ((wrap64 (a0)) - (wrap64 (a1))))).bind fun t195 => (if t195 = true then (if t190 < (-2147483648) then (parolelaw01_NumRing.j0 k true (wrap64 (a0)) (wrap64 (a1)) (wrap64 (a2)) t190 t191 true) else (if t190 > 2147483647 then (parolelaw01_NumRing.j0 k true (wrap64 (a0)) (wrap64 (a1)) (wrap64 (a2)) t190 t191 true) else (if t191 < (-2147483648) then (parolelaw01_NumRing.j0 k true (wrap64 (a0)) (wrap64 (a1)) (wrap64 (a2)) t190 t191 true) else (parolelaw01_NumRing.j0 k true (wrap64 (a0)) (wrap64 (a1)) (wrap64 (a2)) t190 t191 (decide (t191 > 2147483647)))))) else (parolelaw01_NumRing.j0 k true (wrap64 (a0)) (wrap64 (a1)) (wrap64 (a2)) t190 t191 true)))) else (parolelaw01_NumRing.j0 k true (wrap64 (a0)) (wrap64 (a1)) (wrap64 (a2)) t190 t191 true))) = some r := by rw [if_pos rfl] at H; exact H
        clear H
        have H := H1
        clear H1
        replace H := Option.bind_eq_some_iff.mp H
        obtain ⟨t193, A140, H⟩ := H
        replace H : (if t193 = true then ((num_Op.f 5 (wrap64 (a0)) (wrap64 (a1))).bind fun t194 => ((parolelaw01_congruent.f t194 (wrap64 ((wrap64 (a0)) - (wrap64 (a1))))).bind fun t195 => (if t195 = true then (if t190 < (-2147483648) then (parolelaw01_NumRing.j0 k true (wrap64 (a0)) (wrap64 (a1)) (wrap64 (a2)) t190 t191 true) else (if t190 > 2147483647 then (parolelaw01_NumRing.j0 k true (wrap64 (a0)) (wrap64 (a1)) (wrap64 (a2)) t190 t191 true) else (if t191 < (-2147483648) then (parolelaw01_NumRing.j0 k true (wrap64 (a0)) (wrap64 (a1)) (wrap64 (a2)) t190 t191 true) else (parolelaw01_NumRing.j0 k true (wrap64 (a0)) (wrap64 (a1)) (wrap64 (a2)) t190 t191 (decide (t191 > 2147483647)))))) else (parolelaw01_NumRing.j0 k true (wrap64 (a0)) (wrap64 (a1)) (wrap64 (a2)) t190 t191 true)))) else (parolelaw01_NumRing.j0 k true (wrap64 (a0)) (wrap64 (a1)) (wrap64 (a2)) t190 t191 true)) = some r := H
        have A14 := Aside0.mk A140
        clear A140
        by_cases c15 : t193 = true
        · subst c15
          have H1 : ((num_Op.f 5 (wrap64 (a0)) (wrap64 (a1))).bind fun t194 => ((parolelaw01_congruent.f t194 (wrap64 ((wrap64 (a0)) - (wrap64 (a1))))).bind fun t195 => (if t195 = true then (if t190 < (-2147483648) then (parolelaw01_NumRing.j0 k true (wrap64 (a0)) (wrap64 (a1)) (wrap64 (a2)) t190 t191 true) else (if t190 > 2147483647 then (parolelaw01_NumRing.j0 k true (wrap64 (a0)) (wrap64 (a1)) (wrap64 (a2)) t190 t191 true) else (if t191 < (-2147483648) then (parolelaw01_NumRing.j0 k true (wrap64 (a0)) (wrap64 (a1)) (wrap64 (a2)) t190 t191 true) else (parolelaw01_NumRing.j0 k true (wrap64 (a0)) (wrap64 (a1)) (wrap64 (a2)) t190 t191 (decide (t191 > 2147483647)))))) else (parolelaw01_NumRing.j0 k true (wrap64 (a0)) (wrap64 (a1)) (wrap64 (a2)) t190 t191 true)))) = some r := by rw [if_pos rfl] at H; exact H
          clear H
          have H := H1
          clear H1
          replace H := Option.bind_eq_some_iff.mp H
          obtain ⟨t194, A160, H⟩ := H
          replace H : ((parolelaw01_congruent.f t194 (wrap64 ((wrap64 (a0)) - (wrap64 (a1))))).bind fun t195 => (if t195 = true then (if t190 < (-2147483648) then (parolelaw01_NumRing.j0 k true (wrap64 (a0)) (wrap64 (a1)) (wrap64 (a2)) t190 t191 true) else (if t190 > 2147483647 then (parolelaw01_NumRing.j0 k true (wrap64 (a0)) (wrap64 (a1)) (wrap64 (a2)) t190 t191 true) else (if t191 < (-2147483648) then (parolelaw01_NumRing.j0 k true (wrap64 (a0)) (wrap64 (a1)) (wrap64 (a2)) t190 t191 true) else (parolelaw01_NumRing.j0 k true (wrap64 (a0)) (wrap64 (a1)) (wrap64 (a2)) t190 t191 (decide (t191 > 2147483647)))))) else (parolelaw01_NumRing.j0 k true (wrap64 (a0)) (wrap64 (a1)) (wrap64 (a2)) t190 t191 true))) = some r := H
          have A16 := Aside0.mk A160
          clear A160
          replace H := Option.bind_eq_some_iff.mp H
          obtain ⟨t195, A170, H⟩ := H
          replace H : (if t195 = true then (if t190 < (-2147483648) then (parolelaw01_NumRing.j0 k true (wrap64 (a0)) (wrap64 (a1)) (wrap64 (a2)) t190 t191 true) else (if t190 > 2147483647 then (parolelaw01_NumRing.j0 k true (wrap64 (a0)) (wrap64 (a1)) (wrap64 (a2)) t190 t191 true) else (if t191 < (-2147483648) then (parolelaw01_NumRing.j0 k true (wrap64 (a0)) (wrap64 (a1)) (wrap64 (a2)) t190 t191 true) else (parolelaw01_NumRing.j0 k true (wrap64 (a0)) (wrap64 (a1)) (wrap64 (a2)) t190 t191 (decide (t191 > 2147483647)))))) else (parolelaw01_NumRing.j0 k true (wrap64 (a0)) (wrap64 (a1)) (wrap64 (a2)) t190 t191 true)) = some r := H
          have A17 := Aside0.mk A170
          clear A170
          by_cases c18 : t195 = true
          · subst c18
            have H1 : (if t190 < (-2147483648) then (parolelaw01_NumRing.j0 k true (wrap64 (a0)) (wrap64 (a1)) (wrap64 (a2)) t190 t191 true) else (if t190 > 2147483647 then (parolelaw01_NumRing.j0 k true (wrap64 (a0)) (wrap64 (a1)) (wrap64 (a2)) t190 t191 true) else (if t191 < (-2147483648) then (parolelaw01_NumRing.j0 k true (wrap64 (a0)) (wrap64 (a1)) (wrap64 (a2)) t190 t191 true) else (parolelaw01_NumRing.j0 k true (wrap64 (a0)) (wrap64 (a1)) (wrap64 (a2)) t190 t191 (decide (t191 > 2147483647)))))) = some r := by rw [if_pos rfl] at H; exact H
            clear H
            have H := H1
            clear H1
            by_cases c19 : t190 < (-2147483648)
            · rw [if_pos c19] at H
              have c19b0 : decide (t190 < (-2147483648)) = true := decide_eq_true c19
              clear c19
              (first | rw [c19b0] | (simp only [i64_w, i32_w]; rw [c19b0]) | skip)
              have H' := Aside0.mk H
              clear H
              go_wp2_with (first | ((with_reducible refine gate_callee (f := 12) rfl ?_); refine goesL_ (some 32) rfl rfl Try.func12 (by kernel_rfl) rfl #[.int .i64 t190, .int .i64 (wrap64 ((wrap64 (a0)) + (wrap64 (a1))))] rfl (by (try simp only [List.map_toArray, List.map_cons, List.map_nil]); first | done | rfl | (simp only [List.length_drop, List.length_take]; rfl)) ?_; (with_reducible refine (parolelaw01_congruent.calls t190 (wrap64 ((wrap64 (a0)) + (wrap64 (a1)))) true _ A12.out).mono ?_); rintro e w' ⟨rfl, ⟨nd, rfl⟩⟩; refine ⟨_, rfl, ?_⟩) | (go_at_call 12; (with_reducible refine (parolelaw01_congruent.calls t191 (wrap64 ((wrap64 (a0)) * (wrap64 (a1)))) true _ A14.out).mono ?_); rintro e w' ⟨rfl, ⟨nd, rfl⟩⟩) | (go_at_call 11; (with_reducible refine (num_Op.calls 5 (wrap64 (a0)) (wrap64 (a1)) t194 _ A16.out).mono ?_); rintro e w20 ⟨rfl, hb⟩; have n0_ := Aside0.mk (below_step (by repeat (first | (with_reducible first | exact HB.out | apply below_alloc | apply pw_below_drewN | apply below_drew1) | exact HB.out)) hb); clear HB; have HB := n0_; clear n0_; (try clear hb); (try clear hb2); (try clear hk); (try clear hi)) | (go_at_call 12; (with_reducible refine (parolelaw01_congruent.calls t194 (wrap64 ((wrap64 (a0)) - (wrap64 (a1)))) true _ A17.out).mono ?_); rintro e w' ⟨rfl, ⟨nd, rfl⟩⟩))
              go_meet
              case rel => exact ⟨_, (true), (by first | rfl | (simp; done) | (simp [*]; done)), H', ⟨by first | omega | exact Nat.le_refl _⟩, ⟨by repeat (first | (with_reducible first | exact HB.out | apply below_alloc | apply pw_below_drewN | apply below_drew1) | exact HB.out)⟩⟩
            · rw [if_neg c19] at H
              have c19b0 : decide (t190 < (-2147483648)) = false := decide_eq_false c19
              clear c19
              (first | rw [c19b0] | (simp only [i64_w, i32_w]; rw [c19b0]) | skip)
              by_cases c21 : t190 > 2147483647
              · rw [if_pos c21] at H
                have c21b0 : decide (2147483647 < t190) = true := decide_eq_true c21
                clear c21
                have H' := Aside0.mk H
                clear H
                go_wp2_with (first | ((with_reducible refine gate_callee (f := 12) rfl ?_); refine goesL_ (some 32) rfl rfl Try.func12 (by kernel_rfl) rfl #[.int .i64 t190, .int .i64 (wrap64 ((wrap64 (a0)) + (wrap64 (a1))))] rfl (by (try simp only [List.map_toArray, List.map_cons, List.map_nil]); first | done | rfl | (simp only [List.length_drop, List.length_take]; rfl)) ?_; (with_reducible refine (parolelaw01_congruent.calls t190 (wrap64 ((wrap64 (a0)) + (wrap64 (a1)))) true _ A12.out).mono ?_); rintro e w' ⟨rfl, ⟨nd, rfl⟩⟩; refine ⟨_, rfl, ?_⟩) | (go_at_call 12; (with_reducible refine (parolelaw01_congruent.calls t191 (wrap64 ((wrap64 (a0)) * (wrap64 (a1)))) true _ A14.out).mono ?_); rintro e w' ⟨rfl, ⟨nd, rfl⟩⟩) | (go_at_call 11; (with_reducible refine (num_Op.calls 5 (wrap64 (a0)) (wrap64 (a1)) t194 _ A16.out).mono ?_); rintro e w22 ⟨rfl, hb⟩; have n0_ := Aside0.mk (below_step (by repeat (first | (with_reducible first | exact HB.out | apply below_alloc | apply pw_below_drewN | apply below_drew1) | exact HB.out)) hb); clear HB; have HB := n0_; clear n0_; (try clear hb); (try clear hb2); (try clear hk); (try clear hi)) | (go_at_call 12; (with_reducible refine (parolelaw01_congruent.calls t194 (wrap64 ((wrap64 (a0)) - (wrap64 (a1)))) true _ A17.out).mono ?_); rintro e w' ⟨rfl, ⟨nd, rfl⟩⟩))
                go_meet
                case rel => exact ⟨_, (true), (by first | rfl | (simp; done) | (simp [*]; done)), H', ⟨by first | omega | exact Nat.le_refl _⟩, ⟨by repeat (first | (with_reducible first | exact HB.out | apply below_alloc | apply pw_below_drewN | apply below_drew1) | exact HB.out)⟩⟩
              · rw [if_neg c21] at H
                have c21b0 : decide (2147483647 < t190) = false := decide_eq_false c21
                clear c21
                by_cases c23 : t191 < (-2147483648)
                · rw [if_pos c23] at H
                  have c23b0 : decide (t191 < (-2147483648)) = true := decide_eq_true c23
                  clear c23
                  have H' := Aside0.mk H
                  clear H
                  go_wp2_with (first | ((with_reducible refine gate_callee (f := 12) rfl ?_); refine goesL_ (some 32) rfl rfl Try.func12 (by kernel_rfl) rfl #[.int .i64 t190, .int .i64 (wrap64 ((wrap64 (a0)) + (wrap64 (a1))))] rfl (by (try simp only [List.map_toArray, List.map_cons, List.map_nil]); first | done | rfl | (simp only [List.length_drop, List.length_take]; rfl)) ?_; (with_reducible refine (parolelaw01_congruent.calls t190 (wrap64 ((wrap64 (a0)) + (wrap64 (a1)))) true _ A12.out).mono ?_); rintro e w' ⟨rfl, ⟨nd, rfl⟩⟩; refine ⟨_, rfl, ?_⟩) | (go_at_call 12; (with_reducible refine (parolelaw01_congruent.calls t191 (wrap64 ((wrap64 (a0)) * (wrap64 (a1)))) true _ A14.out).mono ?_); rintro e w' ⟨rfl, ⟨nd, rfl⟩⟩) | (go_at_call 11; (with_reducible refine (num_Op.calls 5 (wrap64 (a0)) (wrap64 (a1)) t194 _ A16.out).mono ?_); rintro e w24 ⟨rfl, hb⟩; have n0_ := Aside0.mk (below_step (by repeat (first | (with_reducible first | exact HB.out | apply below_alloc | apply pw_below_drewN | apply below_drew1) | exact HB.out)) hb); clear HB; have HB := n0_; clear n0_; (try clear hb); (try clear hb2); (try clear hk); (try clear hi)) | (go_at_call 12; (with_reducible refine (parolelaw01_congruent.calls t194 (wrap64 ((wrap64 (a0)) - (wrap64 (a1)))) true _ A17.out).mono ?_); rintro e w' ⟨rfl, ⟨nd, rfl⟩⟩))
                  go_meet
                  case rel => exact ⟨_, (true), (by first | rfl | (simp; done) | (simp [*]; done)), H', ⟨by first | omega | exact Nat.le_refl _⟩, ⟨by repeat (first | (with_reducible first | exact HB.out | apply below_alloc | apply pw_below_drewN | apply below_drew1) | exact HB.out)⟩⟩
                · rw [if_neg c23] at H
                  have c23b0 : decide (t191 < (-2147483648)) = false := decide_eq_false c23
                  clear c23
                  have H' := Aside0.mk H
                  clear H
                  go_wp2_with (first | ((with_reducible refine gate_callee (f := 12) rfl ?_); refine goesL_ (some 32) rfl rfl Try.func12 (by kernel_rfl) rfl #[.int .i64 t190, .int .i64 (wrap64 ((wrap64 (a0)) + (wrap64 (a1))))] rfl (by (try simp only [List.map_toArray, List.map_cons, List.map_nil]); first | done | rfl | (simp only [List.length_drop, List.length_take]; rfl)) ?_; (with_reducible refine (parolelaw01_congruent.calls t190 (wrap64 ((wrap64 (a0)) + (wrap64 (a1)))) true _ A12.out).mono ?_); rintro e w' ⟨rfl, ⟨nd, rfl⟩⟩; refine ⟨_, rfl, ?_⟩) | (go_at_call 12; (with_reducible refine (parolelaw01_congruent.calls t191 (wrap64 ((wrap64 (a0)) * (wrap64 (a1)))) true _ A14.out).mono ?_); rintro e w' ⟨rfl, ⟨nd, rfl⟩⟩) | (go_at_call 11; (with_reducible refine (num_Op.calls 5 (wrap64 (a0)) (wrap64 (a1)) t194 _ A16.out).mono ?_); rintro e w25 ⟨rfl, hb⟩; have n0_ := Aside0.mk (below_step (by repeat (first | (with_reducible first | exact HB.out | apply below_alloc | apply pw_below_drewN | apply below_drew1) | exact HB.out)) hb); clear HB; have HB := n0_; clear n0_; (try clear hb); (try clear hb2); (try clear hk); (try clear hi)) | (go_at_call 12; (with_reducible refine (parolelaw01_congruent.calls t194 (wrap64 ((wrap64 (a0)) - (wrap64 (a1)))) true _ A17.out).mono ?_); rintro e w' ⟨rfl, ⟨nd, rfl⟩⟩))
                  go_meet
                  case rel => exact ⟨_, (decide (t191 > 2147483647)), (by first | rfl | (simp; done) | (simp [*]; done)), H', ⟨by first | omega | exact Nat.le_refl _⟩, ⟨by repeat (first | (with_reducible first | exact HB.out | apply below_alloc | apply pw_below_drewN | apply below_drew1) | exact HB.out)⟩⟩
          · replace c18 := Bool.eq_false_iff.mpr c18
            subst c18
            have H1 : (parolelaw01_NumRing.j0 k true (wrap64 (a0)) (wrap64 (a1)) (wrap64 (a2)) t190 t191 true) = some r := by rw [if_neg (show ¬ (false = true) by decide)] at H; exact H
            clear H
            have H := H1
            clear H1
            have H' := Aside0.mk H
            clear H
            go_wp2_with (first | ((with_reducible refine gate_callee (f := 12) rfl ?_); refine goesL_ (some 32) rfl rfl Try.func12 (by kernel_rfl) rfl #[.int .i64 t190, .int .i64 (wrap64 ((wrap64 (a0)) + (wrap64 (a1))))] rfl (by (try simp only [List.map_toArray, List.map_cons, List.map_nil]); first | done | rfl | (simp only [List.length_drop, List.length_take]; rfl)) ?_; (with_reducible refine (parolelaw01_congruent.calls t190 (wrap64 ((wrap64 (a0)) + (wrap64 (a1)))) true _ A12.out).mono ?_); rintro e w' ⟨rfl, ⟨nd, rfl⟩⟩; refine ⟨_, rfl, ?_⟩) | (go_at_call 12; (with_reducible refine (parolelaw01_congruent.calls t191 (wrap64 ((wrap64 (a0)) * (wrap64 (a1)))) true _ A14.out).mono ?_); rintro e w' ⟨rfl, ⟨nd, rfl⟩⟩) | (go_at_call 11; (with_reducible refine (num_Op.calls 5 (wrap64 (a0)) (wrap64 (a1)) t194 _ A16.out).mono ?_); rintro e w26 ⟨rfl, hb⟩; have n0_ := Aside0.mk (below_step (by repeat (first | (with_reducible first | exact HB.out | apply below_alloc | apply pw_below_drewN | apply below_drew1) | exact HB.out)) hb); clear HB; have HB := n0_; clear n0_; (try clear hb); (try clear hb2); (try clear hk); (try clear hi)) | (go_at_call 12; (with_reducible refine (parolelaw01_congruent.calls t194 (wrap64 ((wrap64 (a0)) - (wrap64 (a1)))) false _ A17.out).mono ?_); rintro e w' ⟨rfl, ⟨nd, rfl⟩⟩))
            go_meet
            case rel => exact ⟨_, (true), (by first | rfl | (simp; done) | (simp [*]; done)), H', ⟨by first | omega | exact Nat.le_refl _⟩, ⟨by repeat (first | (with_reducible first | exact HB.out | apply below_alloc | apply pw_below_drewN | apply below_drew1) | exact HB.out)⟩⟩
        · replace c15 := Bool.eq_false_iff.mpr c15
          subst c15
          have H1 : (parolelaw01_NumRing.j0 k true (wrap64 (a0)) (wrap64 (a1)) (wrap64 (a2)) t190 t191 true) = some r := by rw [if_neg (show ¬ (false = true) by decide)] at H; exact H
          clear H
          have H := H1
          clear H1
          have H' := Aside0.mk H
          clear H
          go_wp2_with (first | ((with_reducible refine gate_callee (f := 12) rfl ?_); refine goesL_ (some 32) rfl rfl Try.func12 (by kernel_rfl) rfl #[.int .i64 t190, .int .i64 (wrap64 ((wrap64 (a0)) + (wrap64 (a1))))] rfl (by (try simp only [List.map_toArray, List.map_cons, List.map_nil]); first | done | rfl | (simp only [List.length_drop, List.length_take]; rfl)) ?_; (with_reducible refine (parolelaw01_congruent.calls t190 (wrap64 ((wrap64 (a0)) + (wrap64 (a1)))) true _ A12.out).mono ?_); rintro e w' ⟨rfl, ⟨nd, rfl⟩⟩; refine ⟨_, rfl, ?_⟩) | (go_at_call 12; (with_reducible refine (parolelaw01_congruent.calls t191 (wrap64 ((wrap64 (a0)) * (wrap64 (a1)))) false _ A14.out).mono ?_); rintro e w' ⟨rfl, ⟨nd, rfl⟩⟩))
          go_meet
          case rel => exact ⟨_, (true), (by first | rfl | (simp; done) | (simp [*]; done)), H', ⟨by first | omega | exact Nat.le_refl _⟩, ⟨by repeat (first | (with_reducible first | exact HB.out | apply below_alloc | apply pw_below_drewN | apply below_drew1) | exact HB.out)⟩⟩
      · replace c13 := Bool.eq_false_iff.mpr c13
        subst c13
        have H1 : (parolelaw01_NumRing.j0 k true (wrap64 (a0)) (wrap64 (a1)) (wrap64 (a2)) t190 t191 true) = some r := by rw [if_neg (show ¬ (false = true) by decide)] at H; exact H
        clear H
        have H := H1
        clear H1
        have H' := Aside0.mk H
        clear H
        go_wp2_with (first | ((with_reducible refine gate_callee (f := 12) rfl ?_); refine goesL_ (some 32) rfl rfl Try.func12 (by kernel_rfl) rfl #[.int .i64 t190, .int .i64 (wrap64 ((wrap64 (a0)) + (wrap64 (a1))))] rfl (by (try simp only [List.map_toArray, List.map_cons, List.map_nil]); first | done | rfl | (simp only [List.length_drop, List.length_take]; rfl)) ?_; (with_reducible refine (parolelaw01_congruent.calls t190 (wrap64 ((wrap64 (a0)) + (wrap64 (a1)))) false _ A12.out).mono ?_); rintro e w' ⟨rfl, ⟨nd, rfl⟩⟩; refine ⟨_, rfl, ?_⟩))
        go_meet
        case rel => exact ⟨_, (true), (by first | rfl | (simp; done) | (simp [*]; done)), H', ⟨by first | omega | exact Nat.le_refl _⟩, ⟨by repeat (first | (with_reducible first | exact HB.out | apply below_alloc | apply pw_below_drewN | apply below_drew1) | exact HB.out)⟩⟩
    case rest =>
      clear HC8
      try clear c1
      try clear c2
      try clear p2
      try clear c3
      try clear c5
      try clear p6
      try clear c10
      try clear c11
      try clear c12
      try clear c13
      try clear c15
      try clear c18
      try clear c19
      try clear c19b0
      try clear c21
      try clear c21b0
      try clear c23
      try clear c23b0
      obtain ⟨kq, x67_7, rfl, HA, HJ7, HB⟩ := hcut
      cases kq with
      | zero => exact absurd HA.out (by simp [parolelaw01_NumRing.j0])
      | succ kj7 =>
        have H := HA.out
        clear HA
        simp only [parolelaw01_NumRing.j0] at H
        by_cases c27 : x67_7 = true
        · subst c27
          have H1 : (some false) = some r := by rw [if_pos rfl] at H; exact H
          clear H
          have H := H1
          clear H1
          obtain rfl := Option.some.inj H
          go_wp2
          go_ret
          exact ⟨by first | rfl | (simp [errW_none, errW_some] <;> rfl) | (simp [*, errW_none, errW_some] <;> rfl), by repeat (first | (with_reducible first | exact HB.out | apply below_alloc | apply pw_below_drewN | apply below_drew1) | exact HB.out)⟩
        · replace c27 := Bool.eq_false_iff.mpr c27
          subst c27
          have H1 : ((num_Op.f 4 t190 (wrap64 (a2))).bind fun t196 => ((num_Op.f 4 (wrap64 (a1)) (wrap64 (a2))).bind fun t197 => ((num_Op.f 4 (wrap64 (a0)) t197).bind fun t198 => (if t196 = t198 then ((num_Op.f 6 t191 (wrap64 (a2))).bind fun t199 => ((num_Op.f 6 (wrap64 (a1)) (wrap64 (a2))).bind fun t200 => ((num_Op.f 6 (wrap64 (a0)) t200).bind fun t201 => (if t199 = t201 then ((num_Op.f 4 (wrap64 (a1)) (wrap64 (a0))).bind fun t202 => (if t190 = t202 then ((num_Op.f 6 (wrap64 (a1)) (wrap64 (a0))).bind fun t203 => (parolelaw01_NumRing.j1 kj7 true (wrap64 (a0)) (wrap64 (a1)) (wrap64 (a2)) t190 (t191 != t203))) else (parolelaw01_NumRing.j1 kj7 true (wrap64 (a0)) (wrap64 (a1)) (wrap64 (a2)) t190 true))) else (parolelaw01_NumRing.j1 kj7 true (wrap64 (a0)) (wrap64 (a1)) (wrap64 (a2)) t190 true))))) else (parolelaw01_NumRing.j1 kj7 true (wrap64 (a0)) (wrap64 (a1)) (wrap64 (a2)) t190 true))))) = some r := by rw [if_neg (show ¬ (false = true) by decide)] at H; exact H
          clear H
          have H := H1
          clear H1
          have HC28 := Aside0.mk H
          clear H
          go_upto_region 8 with (fail)
          go_cut [101] (fun v101 wc => ∃ (kq : Nat) (x101_27 : Bool), v101 = .bool x101_27 ∧ Aside0 (parolelaw01_NumRing.j1 kq true (wrap64 (a0)) (wrap64 (a1)) (wrap64 (a2)) t190 x101_27 = some r) ∧ Aside0 (kq ≤ kj7) ∧ Aside0 (Below w.heap.size w wc))
          case first =>
            have H := HC28.out
            clear HC28
            replace H := Option.bind_eq_some_iff.mp H
            obtain ⟨t196, A290, H⟩ := H
            replace H : ((num_Op.f 4 (wrap64 (a1)) (wrap64 (a2))).bind fun t197 => ((num_Op.f 4 (wrap64 (a0)) t197).bind fun t198 => (if t196 = t198 then ((num_Op.f 6 t191 (wrap64 (a2))).bind fun t199 => ((num_Op.f 6 (wrap64 (a1)) (wrap64 (a2))).bind fun t200 => ((num_Op.f 6 (wrap64 (a0)) t200).bind fun t201 => (if t199 = t201 then ((num_Op.f 4 (wrap64 (a1)) (wrap64 (a0))).bind fun t202 => (if t190 = t202 then ((num_Op.f 6 (wrap64 (a1)) (wrap64 (a0))).bind fun t203 => (parolelaw01_NumRing.j1 kj7 true (wrap64 (a0)) (wrap64 (a1)) (wrap64 (a2)) t190 (t191 != t203))) else (parolelaw01_NumRing.j1 kj7 true (wrap64 (a0)) (wrap64 (a1)) (wrap64 (a2)) t190 true))) else (parolelaw01_NumRing.j1 kj7 true (wrap64 (a0)) (wrap64 (a1)) (wrap64 (a2)) t190 true))))) else (parolelaw01_NumRing.j1 kj7 true (wrap64 (a0)) (wrap64 (a1)) (wrap64 (a2)) t190 true)))) = some r := H
            have A29 := Aside0.mk A290
            clear A290
            replace H := Option.bind_eq_some_iff.mp H
            obtain ⟨t197, A300, H⟩ := H
            replace H : ((num_Op.f 4 (wrap64 (a0)) t197).bind fun t198 => (if t196 = t198 then ((num_Op.f 6 t191 (wrap64 (a2))).bind fun t199 => ((num_Op.f 6 (wrap64 (a1)) (wrap64 (a2))).bind fun t200 => ((num_Op.f 6 (wrap64 (a0)) t200).bind fun t201 => (if t199 = t201 then ((num_Op.f 4 (wrap64 (a1)) (wrap64 (a0))).bind fun t202 => (if t190 = t202 then ((num_Op.f 6 (wrap64 (a1)) (wrap64 (a0))).bind fun t203 => (parolelaw01_NumRing.j1 kj7 true (wrap64 (a0)) (wrap64 (a1)) (wrap64 (a2)) t190 (t191 != t203))) else (parolelaw01_NumRing.j1 kj7 true (wrap64 (a0)) (wrap64 (a1)) (wrap64 (a2)) t190 true))) else (parolelaw01_NumRing.j1 kj7 true (wrap64 (a0)) (wrap64 (a1)) (wrap64 (a2)) t190 true))))) else (parolelaw01_NumRing.j1 kj7 true (wrap64 (a0)) (wrap64 (a1)) (wrap64 (a2)) t190 true))) = some r := H
            have A30 := Aside0.mk A300
            clear A300
            replace H := Option.bind_eq_some_iff.mp H
            obtain ⟨t198, A310, H⟩ := H
            replace H : (if t196 = t198 then ((num_Op.f 6 t191 (wrap64 (a2))).bind fun t199 => ((num_Op.f 6 (wrap64 (a1)) (wrap64 (a2))).bind fun t200 => ((num_Op.f 6 (wrap64 (a0)) t200).bind fun t201 => (if t199 = t201 then ((num_Op.f 4 (wrap64 (a1)) (wrap64 (a0))).bind fun t202 => (if t190 = t202 then ((num_Op.f 6 (wrap64 (a1)) (wrap64 (a0))).bind fun t203 => (parolelaw01_NumRing.j1 kj7 true (wrap64 (a0)) (wrap64 (a1)) (wrap64 (a2)) t190 (t191 != t203))) else (parolelaw01_NumRing.j1 kj7 true (wrap64 (a0)) (wrap64 (a1)) (wrap64 (a2)) t190 true))) else (parolelaw01_NumRing.j1 kj7 true (wrap64 (a0)) (wrap64 (a1)) (wrap64 (a2)) t190 true))))) else (parolelaw01_NumRing.j1 kj7 true (wrap64 (a0)) (wrap64 (a1)) (wrap64 (a2)) t190 true)) = some r := H
            have A31 := Aside0.mk A310
            clear A310
            by_cases c32 : t196 = t198
            · rw [if_pos c32] at H
              have c32b0 : (t196 == t198) = true := beq_iff_eq.mpr c32
              have c32b1 : (t196 != t198) = false := bne_eq_false_iff_eq.mpr c32
              clear c32
              (first | rw [c32b0] | (simp only [i64_w, i32_w]; rw [c32b0]) | skip)
              replace H := Option.bind_eq_some_iff.mp H
              obtain ⟨t199, A330, H⟩ := H
              replace H : ((num_Op.f 6 (wrap64 (a1)) (wrap64 (a2))).bind fun t200 => ((num_Op.f 6 (wrap64 (a0)) t200).bind fun t201 => (if t199 = t201 then ((num_Op.f 4 (wrap64 (a1)) (wrap64 (a0))).bind fun t202 => (if t190 = t202 then ((num_Op.f 6 (wrap64 (a1)) (wrap64 (a0))).bind fun t203 => (parolelaw01_NumRing.j1 kj7 true (wrap64 (a0)) (wrap64 (a1)) (wrap64 (a2)) t190 (t191 != t203))) else (parolelaw01_NumRing.j1 kj7 true (wrap64 (a0)) (wrap64 (a1)) (wrap64 (a2)) t190 true))) else (parolelaw01_NumRing.j1 kj7 true (wrap64 (a0)) (wrap64 (a1)) (wrap64 (a2)) t190 true)))) = some r := H
              have A33 := Aside0.mk A330
              clear A330
              replace H := Option.bind_eq_some_iff.mp H
              obtain ⟨t200, A340, H⟩ := H
              replace H : ((num_Op.f 6 (wrap64 (a0)) t200).bind fun t201 => (if t199 = t201 then ((num_Op.f 4 (wrap64 (a1)) (wrap64 (a0))).bind fun t202 => (if t190 = t202 then ((num_Op.f 6 (wrap64 (a1)) (wrap64 (a0))).bind fun t203 => (parolelaw01_NumRing.j1 kj7 true (wrap64 (a0)) (wrap64 (a1)) (wrap64 (a2)) t190 (t191 != t203))) else (parolelaw01_NumRing.j1 kj7 true (wrap64 (a0)) (wrap64 (a1)) (wrap64 (a2)) t190 true))) else (parolelaw01_NumRing.j1 kj7 true (wrap64 (a0)) (wrap64 (a1)) (wrap64 (a2)) t190 true))) = some r := H
              have A34 := Aside0.mk A340
              clear A340
              replace H := Option.bind_eq_some_iff.mp H
              obtain ⟨t201, A350, H⟩ := H
              replace H : (if t199 = t201 then ((num_Op.f 4 (wrap64 (a1)) (wrap64 (a0))).bind fun t202 => (if t190 = t202 then ((num_Op.f 6 (wrap64 (a1)) (wrap64 (a0))).bind fun t203 => (parolelaw01_NumRing.j1 kj7 true (wrap64 (a0)) (wrap64 (a1)) (wrap64 (a2)) t190 (t191 != t203))) else (parolelaw01_NumRing.j1 kj7 true (wrap64 (a0)) (wrap64 (a1)) (wrap64 (a2)) t190 true))) else (parolelaw01_NumRing.j1 kj7 true (wrap64 (a0)) (wrap64 (a1)) (wrap64 (a2)) t190 true)) = some r := H
              have A35 := Aside0.mk A350
              clear A350
              by_cases c36 : t199 = t201
              · rw [if_pos c36] at H
                have c36b0 : (t199 == t201) = true := beq_iff_eq.mpr c36
                have c36b1 : (t199 != t201) = false := bne_eq_false_iff_eq.mpr c36
                clear c36
                replace H := Option.bind_eq_some_iff.mp H
                obtain ⟨t202, A370, H⟩ := H
                replace H : (if t190 = t202 then ((num_Op.f 6 (wrap64 (a1)) (wrap64 (a0))).bind fun t203 => (parolelaw01_NumRing.j1 kj7 true (wrap64 (a0)) (wrap64 (a1)) (wrap64 (a2)) t190 (t191 != t203))) else (parolelaw01_NumRing.j1 kj7 true (wrap64 (a0)) (wrap64 (a1)) (wrap64 (a2)) t190 true)) = some r := H
                have A37 := Aside0.mk A370
                clear A370
                by_cases c38 : t190 = t202
                · rw [if_pos c38] at H
                  have c38b0 : (t190 == t202) = true := beq_iff_eq.mpr c38
                  have c38b1 : (t190 != t202) = false := bne_eq_false_iff_eq.mpr c38
                  clear c38
                  replace H := Option.bind_eq_some_iff.mp H
                  obtain ⟨t203, A390, H⟩ := H
                  replace H : (parolelaw01_NumRing.j1 kj7 true (wrap64 (a0)) (wrap64 (a1)) (wrap64 (a2)) t190 (t191 != t203)) = some r := H
                  have A39 := Aside0.mk A390
                  clear A390
                  have H' := Aside0.mk H
                  clear H
                  go_wp2_with (first | ((with_reducible refine gate_callee (f := 11) rfl ?_); refine goesL_ (some 70) rfl rfl Try.func11 (by kernel_rfl) rfl #[.int .i64 4, .int .i64 t190, .int .i64 (wrap64 (a2))] rfl (by (try simp only [List.map_toArray, List.map_cons, List.map_nil]); first | done | rfl | (simp only [List.length_drop, List.length_take]; rfl)) ?_; (with_reducible refine (num_Op.calls 4 t190 (wrap64 (a2)) t196 _ A29.out).mono ?_); rintro e w40 ⟨rfl, hb⟩; refine ⟨_, rfl, ?_⟩; have n0_ := Aside0.mk (below_step (by repeat (first | (with_reducible first | exact HB.out | apply below_alloc | apply pw_below_drewN | apply below_drew1) | exact HB.out)) hb); clear HB; have HB := n0_; clear n0_; (try clear hb); (try clear hb2); (try clear hk); (try clear hi)) | ((with_reducible refine gate_callee (f := 11) rfl ?_); refine goesL_ (some 74) rfl rfl Try.func11 (by kernel_rfl) rfl #[.int .i64 4, .int .i64 (wrap64 (a1)), .int .i64 (wrap64 (a2))] rfl (by (try simp only [List.map_toArray, List.map_cons, List.map_nil]); first | done | rfl | (simp only [List.length_drop, List.length_take]; rfl)) ?_; (with_reducible refine (num_Op.calls 4 (wrap64 (a1)) (wrap64 (a2)) t197 _ A30.out).mono ?_); rintro e w41 ⟨rfl, hb⟩; refine ⟨_, rfl, ?_⟩; have n0_ := Aside0.mk (below_step (by repeat (first | (with_reducible first | exact HB.out | apply below_alloc | apply pw_below_drewN | apply below_drew1) | exact HB.out)) hb); clear HB; have HB := n0_; clear n0_; (try clear hb); (try clear hb2); (try clear hk); (try clear hi)) | ((with_reducible refine gate_callee (f := 11) rfl ?_); refine goesL_ (some 75) rfl rfl Try.func11 (by kernel_rfl) rfl #[.int .i64 4, .int .i64 (wrap64 (a0)), .int .i64 t197] rfl (by (try simp only [List.map_toArray, List.map_cons, List.map_nil]); first | done | rfl | (simp only [List.length_drop, List.length_take]; rfl)) ?_; (with_reducible refine (num_Op.calls 4 (wrap64 (a0)) t197 t198 _ A31.out).mono ?_); rintro e w42 ⟨rfl, hb⟩; refine ⟨_, rfl, ?_⟩; have n0_ := Aside0.mk (below_step (by repeat (first | (with_reducible first | exact HB.out | apply below_alloc | apply pw_below_drewN | apply below_drew1) | exact HB.out)) hb); clear HB; have HB := n0_; clear n0_; (try clear hb); (try clear hb2); (try clear hk); (try clear hi)) | (go_at_call 11; (with_reducible refine (num_Op.calls 6 t191 (wrap64 (a2)) t199 _ A33.out).mono ?_); rintro e w43 ⟨rfl, hb⟩; have n0_ := Aside0.mk (below_step (by repeat (first | (with_reducible first | exact HB.out | apply below_alloc | apply pw_below_drewN | apply below_drew1) | exact HB.out)) hb); clear HB; have HB := n0_; clear n0_; (try clear hb); (try clear hb2); (try clear hk); (try clear hi)) | (go_at_call 11; (with_reducible refine (num_Op.calls 6 (wrap64 (a1)) (wrap64 (a2)) t200 _ A34.out).mono ?_); rintro e w44 ⟨rfl, hb⟩; have n0_ := Aside0.mk (below_step (by repeat (first | (with_reducible first | exact HB.out | apply below_alloc | apply pw_below_drewN | apply below_drew1) | exact HB.out)) hb); clear HB; have HB := n0_; clear n0_; (try clear hb); (try clear hb2); (try clear hk); (try clear hi)) | (go_at_call 11; (with_reducible refine (num_Op.calls 6 (wrap64 (a0)) t200 t201 _ A35.out).mono ?_); rintro e w45 ⟨rfl, hb⟩; have n0_ := Aside0.mk (below_step (by repeat (first | (with_reducible first | exact HB.out | apply below_alloc | apply pw_below_drewN | apply below_drew1) | exact HB.out)) hb); clear HB; have HB := n0_; clear n0_; (try clear hb); (try clear hb2); (try clear hk); (try clear hi)) | (go_at_call 11; (with_reducible refine (num_Op.calls 4 (wrap64 (a1)) (wrap64 (a0)) t202 _ A37.out).mono ?_); rintro e w46 ⟨rfl, hb⟩; have n0_ := Aside0.mk (below_step (by repeat (first | (with_reducible first | exact HB.out | apply below_alloc | apply pw_below_drewN | apply below_drew1) | exact HB.out)) hb); clear HB; have HB := n0_; clear n0_; (try clear hb); (try clear hb2); (try clear hk); (try clear hi)) | (go_at_call 11; (with_reducible refine (num_Op.calls 6 (wrap64 (a1)) (wrap64 (a0)) t203 _ A39.out).mono ?_); rintro e w47 ⟨rfl, hb⟩; have n0_ := Aside0.mk (below_step (by repeat (first | (with_reducible first | exact HB.out | apply below_alloc | apply pw_below_drewN | apply below_drew1) | exact HB.out)) hb); clear HB; have HB := n0_; clear n0_; (try clear hb); (try clear hb2); (try clear hk); (try clear hi)))
                  go_meet
                  case rel => exact ⟨_, ((t191 != t203)), (by first | rfl | (simp; done) | (simp [*]; done)), H', ⟨by have := HJ7.out; first | omega | exact Nat.le_refl _⟩, ⟨by repeat (first | (with_reducible first | exact HB.out | apply below_alloc | apply pw_below_drewN | apply below_drew1) | exact HB.out)⟩⟩
                · rw [if_neg c38] at H
                  have c38b0 : (t190 == t202) = false := beq_eq_false_iff_ne.mpr c38
                  have c38b1 : (t190 != t202) = true := bne_iff_ne.mpr c38
                  have H' := Aside0.mk H
                  clear H
                  go_wp2_with (first | ((with_reducible refine gate_callee (f := 11) rfl ?_); refine goesL_ (some 70) rfl rfl Try.func11 (by kernel_rfl) rfl #[.int .i64 4, .int .i64 t190, .int .i64 (wrap64 (a2))] rfl (by (try simp only [List.map_toArray, List.map_cons, List.map_nil]); first | done | rfl | (simp only [List.length_drop, List.length_take]; rfl)) ?_; (with_reducible refine (num_Op.calls 4 t190 (wrap64 (a2)) t196 _ A29.out).mono ?_); rintro e w48 ⟨rfl, hb⟩; refine ⟨_, rfl, ?_⟩; have n0_ := Aside0.mk (below_step (by repeat (first | (with_reducible first | exact HB.out | apply below_alloc | apply pw_below_drewN | apply below_drew1) | exact HB.out)) hb); clear HB; have HB := n0_; clear n0_; (try clear hb); (try clear hb2); (try clear hk); (try clear hi)) | ((with_reducible refine gate_callee (f := 11) rfl ?_); refine goesL_ (some 74) rfl rfl Try.func11 (by kernel_rfl) rfl #[.int .i64 4, .int .i64 (wrap64 (a1)), .int .i64 (wrap64 (a2))] rfl (by (try simp only [List.map_toArray, List.map_cons, List.map_nil]); first | done | rfl | (simp only [List.length_drop, List.length_take]; rfl)) ?_; (with_reducible refine (num_Op.calls 4 (wrap64 (a1)) (wrap64 (a2)) t197 _ A30.out).mono ?_); rintro e w49 ⟨rfl, hb⟩; refine ⟨_, rfl, ?_⟩; have n0_ := Aside0.mk (below_step (by repeat (first | (with_reducible first | exact HB.out | apply below_alloc | apply pw_below_drewN | apply below_drew1) | exact HB.out)) hb); clear HB; have HB := n0_; clear n0_; (try clear hb); (try clear hb2); (try clear hk); (try clear hi)) | ((with_reducible refine gate_callee (f := 11) rfl ?_); refine goesL_ (some 75) rfl rfl Try.func11 (by kernel_rfl) rfl #[.int .i64 4, .int .i64 (wrap64 (a0)), .int .i64 t197] rfl (by (try simp only [List.map_toArray, List.map_cons, List.map_nil]); first | done | rfl | (simp only [List.length_drop, List.length_take]; rfl)) ?_; (with_reducible refine (num_Op.calls 4 (wrap64 (a0)) t197 t198 _ A31.out).mono ?_); rintro e w50 ⟨rfl, hb⟩; refine ⟨_, rfl, ?_⟩; have n0_ := Aside0.mk (below_step (by repeat (first | (with_reducible first | exact HB.out | apply below_alloc | apply pw_below_drewN | apply below_drew1) | exact HB.out)) hb); clear HB; have HB := n0_; clear n0_; (try clear hb); (try clear hb2); (try clear hk); (try clear hi)) | (go_at_call 11; (with_reducible refine (num_Op.calls 6 t191 (wrap64 (a2)) t199 _ A33.out).mono ?_); rintro e w51 ⟨rfl, hb⟩; have n0_ := Aside0.mk (below_step (by repeat (first | (with_reducible first | exact HB.out | apply below_alloc | apply pw_below_drewN | apply below_drew1) | exact HB.out)) hb); clear HB; have HB := n0_; clear n0_; (try clear hb); (try clear hb2); (try clear hk); (try clear hi)) | (go_at_call 11; (with_reducible refine (num_Op.calls 6 (wrap64 (a1)) (wrap64 (a2)) t200 _ A34.out).mono ?_); rintro e w52 ⟨rfl, hb⟩; have n0_ := Aside0.mk (below_step (by repeat (first | (with_reducible first | exact HB.out | apply below_alloc | apply pw_below_drewN | apply below_drew1) | exact HB.out)) hb); clear HB; have HB := n0_; clear n0_; (try clear hb); (try clear hb2); (try clear hk); (try clear hi)) | (go_at_call 11; (with_reducible refine (num_Op.calls 6 (wrap64 (a0)) t200 t201 _ A35.out).mono ?_); rintro e w53 ⟨rfl, hb⟩; have n0_ := Aside0.mk (below_step (by repeat (first | (with_reducible first | exact HB.out | apply below_alloc | apply pw_below_drewN | apply below_drew1) | exact HB.out)) hb); clear HB; have HB := n0_; clear n0_; (try clear hb); (try clear hb2); (try clear hk); (try clear hi)) | (go_at_call 11; (with_reducible refine (num_Op.calls 4 (wrap64 (a1)) (wrap64 (a0)) t202 _ A37.out).mono ?_); rintro e w54 ⟨rfl, hb⟩; have n0_ := Aside0.mk (below_step (by repeat (first | (with_reducible first | exact HB.out | apply below_alloc | apply pw_below_drewN | apply below_drew1) | exact HB.out)) hb); clear HB; have HB := n0_; clear n0_; (try clear hb); (try clear hb2); (try clear hk); (try clear hi)))
                  go_meet
                  case rel => exact ⟨_, (true), (by first | rfl | (simp; done) | (simp [*]; done)), H', ⟨by have := HJ7.out; first | omega | exact Nat.le_refl _⟩, ⟨by repeat (first | (with_reducible first | exact HB.out | apply below_alloc | apply pw_below_drewN | apply below_drew1) | exact HB.out)⟩⟩
              · rw [if_neg c36] at H
                have c36b0 : (t199 == t201) = false := beq_eq_false_iff_ne.mpr c36
                have c36b1 : (t199 != t201) = true := bne_iff_ne.mpr c36
                have H' := Aside0.mk H
                clear H
                go_wp2_with (first | ((with_reducible refine gate_callee (f := 11) rfl ?_); refine goesL_ (some 70) rfl rfl Try.func11 (by kernel_rfl) rfl #[.int .i64 4, .int .i64 t190, .int .i64 (wrap64 (a2))] rfl (by (try simp only [List.map_toArray, List.map_cons, List.map_nil]); first | done | rfl | (simp only [List.length_drop, List.length_take]; rfl)) ?_; (with_reducible refine (num_Op.calls 4 t190 (wrap64 (a2)) t196 _ A29.out).mono ?_); rintro e w55 ⟨rfl, hb⟩; refine ⟨_, rfl, ?_⟩; have n0_ := Aside0.mk (below_step (by repeat (first | (with_reducible first | exact HB.out | apply below_alloc | apply pw_below_drewN | apply below_drew1) | exact HB.out)) hb); clear HB; have HB := n0_; clear n0_; (try clear hb); (try clear hb2); (try clear hk); (try clear hi)) | ((with_reducible refine gate_callee (f := 11) rfl ?_); refine goesL_ (some 74) rfl rfl Try.func11 (by kernel_rfl) rfl #[.int .i64 4, .int .i64 (wrap64 (a1)), .int .i64 (wrap64 (a2))] rfl (by (try simp only [List.map_toArray, List.map_cons, List.map_nil]); first | done | rfl | (simp only [List.length_drop, List.length_take]; rfl)) ?_; (with_reducible refine (num_Op.calls 4 (wrap64 (a1)) (wrap64 (a2)) t197 _ A30.out).mono ?_); rintro e w56 ⟨rfl, hb⟩; refine ⟨_, rfl, ?_⟩; have n0_ := Aside0.mk (below_step (by repeat (first | (with_reducible first | exact HB.out | apply below_alloc | apply pw_below_drewN | apply below_drew1) | exact HB.out)) hb); clear HB; have HB := n0_; clear n0_; (try clear hb); (try clear hb2); (try clear hk); (try clear hi)) | ((with_reducible refine gate_callee (f := 11) rfl ?_); refine goesL_ (some 75) rfl rfl Try.func11 (by kernel_rfl) rfl #[.int .i64 4, .int .i64 (wrap64 (a0)), .int .i64 t197] rfl (by (try simp only [List.map_toArray, List.map_cons, List.map_nil]); first | done | rfl | (simp only [List.length_drop, List.length_take]; rfl)) ?_; (with_reducible refine (num_Op.calls 4 (wrap64 (a0)) t197 t198 _ A31.out).mono ?_); rintro e w57 ⟨rfl, hb⟩; refine ⟨_, rfl, ?_⟩; have n0_ := Aside0.mk (below_step (by repeat (first | (with_reducible first | exact HB.out | apply below_alloc | apply pw_below_drewN | apply below_drew1) | exact HB.out)) hb); clear HB; have HB := n0_; clear n0_; (try clear hb); (try clear hb2); (try clear hk); (try clear hi)) | (go_at_call 11; (with_reducible refine (num_Op.calls 6 t191 (wrap64 (a2)) t199 _ A33.out).mono ?_); rintro e w58 ⟨rfl, hb⟩; have n0_ := Aside0.mk (below_step (by repeat (first | (with_reducible first | exact HB.out | apply below_alloc | apply pw_below_drewN | apply below_drew1) | exact HB.out)) hb); clear HB; have HB := n0_; clear n0_; (try clear hb); (try clear hb2); (try clear hk); (try clear hi)) | (go_at_call 11; (with_reducible refine (num_Op.calls 6 (wrap64 (a1)) (wrap64 (a2)) t200 _ A34.out).mono ?_); rintro e w59 ⟨rfl, hb⟩; have n0_ := Aside0.mk (below_step (by repeat (first | (with_reducible first | exact HB.out | apply below_alloc | apply pw_below_drewN | apply below_drew1) | exact HB.out)) hb); clear HB; have HB := n0_; clear n0_; (try clear hb); (try clear hb2); (try clear hk); (try clear hi)) | (go_at_call 11; (with_reducible refine (num_Op.calls 6 (wrap64 (a0)) t200 t201 _ A35.out).mono ?_); rintro e w60 ⟨rfl, hb⟩; have n0_ := Aside0.mk (below_step (by repeat (first | (with_reducible first | exact HB.out | apply below_alloc | apply pw_below_drewN | apply below_drew1) | exact HB.out)) hb); clear HB; have HB := n0_; clear n0_; (try clear hb); (try clear hb2); (try clear hk); (try clear hi)))
                go_meet
                case rel => exact ⟨_, (true), (by first | rfl | (simp; done) | (simp [*]; done)), H', ⟨by have := HJ7.out; first | omega | exact Nat.le_refl _⟩, ⟨by repeat (first | (with_reducible first | exact HB.out | apply below_alloc | apply pw_below_drewN | apply below_drew1) | exact HB.out)⟩⟩
            · rw [if_neg c32] at H
              have c32b0 : (t196 == t198) = false := beq_eq_false_iff_ne.mpr c32
              have c32b1 : (t196 != t198) = true := bne_iff_ne.mpr c32
              (first | rw [c32b0] | (simp only [i64_w, i32_w]; rw [c32b0]) | skip)
              have H' := Aside0.mk H
              clear H
              go_wp2_with (first | ((with_reducible refine gate_callee (f := 11) rfl ?_); refine goesL_ (some 70) rfl rfl Try.func11 (by kernel_rfl) rfl #[.int .i64 4, .int .i64 t190, .int .i64 (wrap64 (a2))] rfl (by (try simp only [List.map_toArray, List.map_cons, List.map_nil]); first | done | rfl | (simp only [List.length_drop, List.length_take]; rfl)) ?_; (with_reducible refine (num_Op.calls 4 t190 (wrap64 (a2)) t196 _ A29.out).mono ?_); rintro e w61 ⟨rfl, hb⟩; refine ⟨_, rfl, ?_⟩; have n0_ := Aside0.mk (below_step (by repeat (first | (with_reducible first | exact HB.out | apply below_alloc | apply pw_below_drewN | apply below_drew1) | exact HB.out)) hb); clear HB; have HB := n0_; clear n0_; (try clear hb); (try clear hb2); (try clear hk); (try clear hi)) | ((with_reducible refine gate_callee (f := 11) rfl ?_); refine goesL_ (some 74) rfl rfl Try.func11 (by kernel_rfl) rfl #[.int .i64 4, .int .i64 (wrap64 (a1)), .int .i64 (wrap64 (a2))] rfl (by (try simp only [List.map_toArray, List.map_cons, List.map_nil]); first | done | rfl | (simp only [List.length_drop, List.length_take]; rfl)) ?_; (with_reducible refine (num_Op.calls 4 (wrap64 (a1)) (wrap64 (a2)) t197 _ A30.out).mono ?_); rintro e w62 ⟨rfl, hb⟩; refine ⟨_, rfl, ?_⟩; have n0_ := Aside0.mk (below_step (by repeat (first | (with_reducible first | exact HB.out | apply below_alloc | apply pw_below_drewN | apply below_drew1) | exact HB.out)) hb); clear HB; have HB := n0_; clear n0_; (try clear hb); (try clear hb2); (try clear hk); (try clear hi)) | ((with_reducible refine gate_callee (f := 11) rfl ?_); refine goesL_ (some 75) rfl rfl Try.func11 (by kernel_rfl) rfl #[.int .i64 4, .int .i64 (wrap64 (a0)), .int .i64 t197] rfl (by (try simp only [List.map_toArray, List.map_cons, List.map_nil]); first | done | rfl | (simp only [List.length_drop, List.length_take]; rfl)) ?_; (with_reducible refine (num_Op.calls 4 (wrap64 (a0)) t197 t198 _ A31.out).mono ?_); rintro e w63 ⟨rfl, hb⟩; refine ⟨_, rfl, ?_⟩; have n0_ := Aside0.mk (below_step (by repeat (first | (with_reducible first | exact HB.out | apply below_alloc | apply pw_below_drewN | apply below_drew1) | exact HB.out)) hb); clear HB; have HB := n0_; clear n0_; (try clear hb); (try clear hb2); (try clear hk); (try clear hi)))
              go_meet
              case rel => exact ⟨_, (true), (by first | rfl | (simp; done) | (simp [*]; done)), H', ⟨by have := HJ7.out; first | omega | exact Nat.le_refl _⟩, ⟨by repeat (first | (with_reducible first | exact HB.out | apply below_alloc | apply pw_below_drewN | apply below_drew1) | exact HB.out)⟩⟩
          case rest =>
            clear HC28
            try clear c1
            try clear c2
            try clear p2
            try clear c3
            try clear c5
            try clear p6
            try clear c10
            try clear c11
            try clear c12
            try clear c13
            try clear c15
            try clear c18
            try clear c19
            try clear c19b0
            try clear c21
            try clear c21b0
            try clear c23
            try clear c23b0
            try clear c27
            try clear c32
            try clear c32b0
            try clear c32b1
            try clear c36
            try clear c36b0
            try clear c36b1
            try clear c38
            try clear c38b0
            try clear c38b1
            try clear p2
            try clear p6
            obtain ⟨kq, x101_27, rfl, HA, HJ27, HB⟩ := hcut
            cases kq with
            | zero => exact absurd HA.out (by simp [parolelaw01_NumRing.j1])
            | succ kj27 =>
              have H := HA.out
              clear HA
              simp only [parolelaw01_NumRing.j1] at H
              by_cases c64 : x101_27 = true
              · subst c64
                have H1 : (some false) = some r := by rw [if_pos rfl] at H; exact H
                clear H
                have H := H1
                clear H1
                obtain rfl := Option.some.inj H
                go_wp2
                go_ret
                exact ⟨by first | rfl | (simp [errW_none, errW_some] <;> rfl) | (simp [*, errW_none, errW_some] <;> rfl), by repeat (first | (with_reducible first | exact HB.out | apply below_alloc | apply pw_below_drewN | apply below_drew1) | exact HB.out)⟩
              · replace c64 := Bool.eq_false_iff.mpr c64
                subst c64
                have H1 : ((num_Op.f 6 t190 (wrap64 (a2))).bind fun t204 => ((num_Op.f 6 (wrap64 (a0)) (wrap64 (a2))).bind fun t205 => ((num_Op.f 6 (wrap64 (a1)) (wrap64 (a2))).bind fun t206 => ((num_Op.f 4 t205 t206).bind fun t207 => (if t204 = t207 then ((num_Op.f 5 (wrap64 (a0)) (wrap64 (a1))).bind fun t208 => ((num_Op.f 4 t208 (wrap64 (a1))).bind fun t209 => (if t209 = (wrap64 (a0)) then (some true) else (some false)))) else (some false)))))) = some r := by rw [if_neg (show ¬ (false = true) by decide)] at H; exact H
                clear H
                have H := H1
                clear H1
                replace H := Option.bind_eq_some_iff.mp H
                obtain ⟨t204, A650, H⟩ := H
                replace H : ((num_Op.f 6 (wrap64 (a0)) (wrap64 (a2))).bind fun t205 => ((num_Op.f 6 (wrap64 (a1)) (wrap64 (a2))).bind fun t206 => ((num_Op.f 4 t205 t206).bind fun t207 => (if t204 = t207 then ((num_Op.f 5 (wrap64 (a0)) (wrap64 (a1))).bind fun t208 => ((num_Op.f 4 t208 (wrap64 (a1))).bind fun t209 => (if t209 = (wrap64 (a0)) then (some true) else (some false)))) else (some false))))) = some r := H
                have A65 := Aside0.mk A650
                clear A650
                replace H := Option.bind_eq_some_iff.mp H
                obtain ⟨t205, A660, H⟩ := H
                replace H : ((num_Op.f 6 (wrap64 (a1)) (wrap64 (a2))).bind fun t206 => ((num_Op.f 4 t205 t206).bind fun t207 => (if t204 = t207 then ((num_Op.f 5 (wrap64 (a0)) (wrap64 (a1))).bind fun t208 => ((num_Op.f 4 t208 (wrap64 (a1))).bind fun t209 => (if t209 = (wrap64 (a0)) then (some true) else (some false)))) else (some false)))) = some r := H
                have A66 := Aside0.mk A660
                clear A660
                replace H := Option.bind_eq_some_iff.mp H
                obtain ⟨t206, A670, H⟩ := H
                replace H : ((num_Op.f 4 t205 t206).bind fun t207 => (if t204 = t207 then ((num_Op.f 5 (wrap64 (a0)) (wrap64 (a1))).bind fun t208 => ((num_Op.f 4 t208 (wrap64 (a1))).bind fun t209 => (if t209 = (wrap64 (a0)) then (some true) else (some false)))) else (some false))) = some r := H
                have A67 := Aside0.mk A670
                clear A670
                replace H := Option.bind_eq_some_iff.mp H
                obtain ⟨t207, A680, H⟩ := H
                replace H : (if t204 = t207 then ((num_Op.f 5 (wrap64 (a0)) (wrap64 (a1))).bind fun t208 => ((num_Op.f 4 t208 (wrap64 (a1))).bind fun t209 => (if t209 = (wrap64 (a0)) then (some true) else (some false)))) else (some false)) = some r := H
                have A68 := Aside0.mk A680
                clear A680
                by_cases c69 : t204 = t207
                · rw [if_pos c69] at H
                  have c69b0 : (t204 == t207) = true := beq_iff_eq.mpr c69
                  have c69b1 : (t204 != t207) = false := bne_eq_false_iff_eq.mpr c69
                  clear c69
                  replace H := Option.bind_eq_some_iff.mp H
                  obtain ⟨t208, A700, H⟩ := H
                  replace H : ((num_Op.f 4 t208 (wrap64 (a1))).bind fun t209 => (if t209 = (wrap64 (a0)) then (some true) else (some false))) = some r := H
                  have A70 := Aside0.mk A700
                  clear A700
                  replace H := Option.bind_eq_some_iff.mp H
                  obtain ⟨t209, A710, H⟩ := H
                  replace H : (if t209 = (wrap64 (a0)) then (some true) else (some false)) = some r := H
                  have A71 := Aside0.mk A710
                  clear A710
                  by_cases c72 : t209 = (wrap64 (a0))
                  · rw [if_pos c72] at H
                    have c72b0 : (t209 == (wrap64 (a0))) = true := beq_iff_eq.mpr c72
                    have c72b1 : (t209 != (wrap64 (a0))) = false := bne_eq_false_iff_eq.mpr c72
                    clear c72
                    obtain rfl := Option.some.inj H
                    go_wp2_with (first | ((with_reducible refine gate_callee (f := 11) rfl ?_); refine goesL_ (some 104) rfl rfl Try.func11 (by kernel_rfl) rfl #[.int .i64 6, .int .i64 t190, .int .i64 (wrap64 (a2))] rfl (by (try simp only [List.map_toArray, List.map_cons, List.map_nil]); first | done | rfl | (simp only [List.length_drop, List.length_take]; rfl)) ?_; (with_reducible refine (num_Op.calls 6 t190 (wrap64 (a2)) t204 _ A65.out).mono ?_); rintro e w73 ⟨rfl, hb⟩; refine ⟨_, rfl, ?_⟩; have n0_ := Aside0.mk (below_step (by repeat (first | (with_reducible first | exact HB.out | apply below_alloc | apply pw_below_drewN | apply below_drew1) | exact HB.out)) hb); clear HB; have HB := n0_; clear n0_; (try clear hb); (try clear hb2); (try clear hk); (try clear hi)) | ((with_reducible refine gate_callee (f := 11) rfl ?_); refine goesL_ (some 107) rfl rfl Try.func11 (by kernel_rfl) rfl #[.int .i64 6, .int .i64 (wrap64 (a0)), .int .i64 (wrap64 (a2))] rfl (by (try simp only [List.map_toArray, List.map_cons, List.map_nil]); first | done | rfl | (simp only [List.length_drop, List.length_take]; rfl)) ?_; (with_reducible refine (num_Op.calls 6 (wrap64 (a0)) (wrap64 (a2)) t205 _ A66.out).mono ?_); rintro e w74 ⟨rfl, hb⟩; refine ⟨_, rfl, ?_⟩; have n0_ := Aside0.mk (below_step (by repeat (first | (with_reducible first | exact HB.out | apply below_alloc | apply pw_below_drewN | apply below_drew1) | exact HB.out)) hb); clear HB; have HB := n0_; clear n0_; (try clear hb); (try clear hb2); (try clear hk); (try clear hi)) | ((with_reducible refine gate_callee (f := 11) rfl ?_); refine goesL_ (some 110) rfl rfl Try.func11 (by kernel_rfl) rfl #[.int .i64 6, .int .i64 (wrap64 (a1)), .int .i64 (wrap64 (a2))] rfl (by (try simp only [List.map_toArray, List.map_cons, List.map_nil]); first | done | rfl | (simp only [List.length_drop, List.length_take]; rfl)) ?_; (with_reducible refine (num_Op.calls 6 (wrap64 (a1)) (wrap64 (a2)) t206 _ A67.out).mono ?_); rintro e w75 ⟨rfl, hb⟩; refine ⟨_, rfl, ?_⟩; have n0_ := Aside0.mk (below_step (by repeat (first | (with_reducible first | exact HB.out | apply below_alloc | apply pw_below_drewN | apply below_drew1) | exact HB.out)) hb); clear HB; have HB := n0_; clear n0_; (try clear hb); (try clear hb2); (try clear hk); (try clear hi)) | ((with_reducible refine gate_callee (f := 11) rfl ?_); refine goesL_ (some 111) rfl rfl Try.func11 (by kernel_rfl) rfl #[.int .i64 4, .int .i64 t205, .int .i64 t206] rfl (by (try simp only [List.map_toArray, List.map_cons, List.map_nil]); first | done | rfl | (simp only [List.length_drop, List.length_take]; rfl)) ?_; (with_reducible refine (num_Op.calls 4 t205 t206 t207 _ A68.out).mono ?_); rintro e w76 ⟨rfl, hb⟩; refine ⟨_, rfl, ?_⟩; have n0_ := Aside0.mk (below_step (by repeat (first | (with_reducible first | exact HB.out | apply below_alloc | apply pw_below_drewN | apply below_drew1) | exact HB.out)) hb); clear HB; have HB := n0_; clear n0_; (try clear hb); (try clear hb2); (try clear hk); (try clear hi)) | (go_at_call 11; (with_reducible refine (num_Op.calls 5 (wrap64 (a0)) (wrap64 (a1)) t208 _ A70.out).mono ?_); rintro e w77 ⟨rfl, hb⟩; have n0_ := Aside0.mk (below_step (by repeat (first | (with_reducible first | exact HB.out | apply below_alloc | apply pw_below_drewN | apply below_drew1) | exact HB.out)) hb); clear HB; have HB := n0_; clear n0_; (try clear hb); (try clear hb2); (try clear hk); (try clear hi)) | (go_at_call 11; (with_reducible refine (num_Op.calls 4 t208 (wrap64 (a1)) t209 _ A71.out).mono ?_); rintro e w78 ⟨rfl, hb⟩; have n0_ := Aside0.mk (below_step (by repeat (first | (with_reducible first | exact HB.out | apply below_alloc | apply pw_below_drewN | apply below_drew1) | exact HB.out)) hb); clear HB; have HB := n0_; clear n0_; (try clear hb); (try clear hb2); (try clear hk); (try clear hi)))
                    go_ret
                    exact ⟨by first | rfl | (simp [errW_none, errW_some] <;> rfl) | (simp [*, errW_none, errW_some] <;> rfl), by repeat (first | (with_reducible first | exact HB.out | apply below_alloc | apply pw_below_drewN | apply below_drew1) | exact HB.out)⟩
                  · rw [if_neg c72] at H
                    have c72b0 : (t209 == (wrap64 (a0))) = false := beq_eq_false_iff_ne.mpr c72
                    have c72b1 : (t209 != (wrap64 (a0))) = true := bne_iff_ne.mpr c72
                    obtain rfl := Option.some.inj H
                    go_wp2_with (first | ((with_reducible refine gate_callee (f := 11) rfl ?_); refine goesL_ (some 104) rfl rfl Try.func11 (by kernel_rfl) rfl #[.int .i64 6, .int .i64 t190, .int .i64 (wrap64 (a2))] rfl (by (try simp only [List.map_toArray, List.map_cons, List.map_nil]); first | done | rfl | (simp only [List.length_drop, List.length_take]; rfl)) ?_; (with_reducible refine (num_Op.calls 6 t190 (wrap64 (a2)) t204 _ A65.out).mono ?_); rintro e w79 ⟨rfl, hb⟩; refine ⟨_, rfl, ?_⟩; have n0_ := Aside0.mk (below_step (by repeat (first | (with_reducible first | exact HB.out | apply below_alloc | apply pw_below_drewN | apply below_drew1) | exact HB.out)) hb); clear HB; have HB := n0_; clear n0_; (try clear hb); (try clear hb2); (try clear hk); (try clear hi)) | ((with_reducible refine gate_callee (f := 11) rfl ?_); refine goesL_ (some 107) rfl rfl Try.func11 (by kernel_rfl) rfl #[.int .i64 6, .int .i64 (wrap64 (a0)), .int .i64 (wrap64 (a2))] rfl (by (try simp only [List.map_toArray, List.map_cons, List.map_nil]); first | done | rfl | (simp only [List.length_drop, List.length_take]; rfl)) ?_; (with_reducible refine (num_Op.calls 6 (wrap64 (a0)) (wrap64 (a2)) t205 _ A66.out).mono ?_); rintro e w80 ⟨rfl, hb⟩; refine ⟨_, rfl, ?_⟩; have n0_ := Aside0.mk (below_step (by repeat (first | (with_reducible first | exact HB.out | apply below_alloc | apply pw_below_drewN | apply below_drew1) | exact HB.out)) hb); clear HB; have HB := n0_; clear n0_; (try clear hb); (try clear hb2); (try clear hk); (try clear hi)) | ((with_reducible refine gate_callee (f := 11) rfl ?_); refine goesL_ (some 110) rfl rfl Try.func11 (by kernel_rfl) rfl #[.int .i64 6, .int .i64 (wrap64 (a1)), .int .i64 (wrap64 (a2))] rfl (by (try simp only [List.map_toArray, List.map_cons, List.map_nil]); first | done | rfl | (simp only [List.length_drop, List.length_take]; rfl)) ?_; (with_reducible refine (num_Op.calls 6 (wrap64 (a1)) (wrap64 (a2)) t206 _ A67.out).mono ?_); rintro e w81 ⟨rfl, hb⟩; refine ⟨_, rfl, ?_⟩; have n0_ := Aside0.mk (below_step (by repeat (first | (with_reducible first | exact HB.out | apply below_alloc | apply pw_below_drewN | apply below_drew1) | exact HB.out)) hb); clear HB; have HB := n0_; clear n0_; (try clear hb); (try clear hb2); (try clear hk); (try clear hi)) | ((with_reducible refine gate_callee (f := 11) rfl ?_); refine goesL_ (some 111) rfl rfl Try.func11 (by kernel_rfl) rfl #[.int .i64 4, .int .i64 t205, .int .i64 t206] rfl (by (try simp only [List.map_toArray, List.map_cons, List.map_nil]); first | done | rfl | (simp only [List.length_drop, List.length_take]; rfl)) ?_; (with_reducible refine (num_Op.calls 4 t205 t206 t207 _ A68.out).mono ?_); rintro e w82 ⟨rfl, hb⟩; refine ⟨_, rfl, ?_⟩; have n0_ := Aside0.mk (below_step (by repeat (first | (with_reducible first | exact HB.out | apply below_alloc | apply pw_below_drewN | apply below_drew1) | exact HB.out)) hb); clear HB; have HB := n0_; clear n0_; (try clear hb); (try clear hb2); (try clear hk); (try clear hi)) | (go_at_call 11; (with_reducible refine (num_Op.calls 5 (wrap64 (a0)) (wrap64 (a1)) t208 _ A70.out).mono ?_); rintro e w83 ⟨rfl, hb⟩; have n0_ := Aside0.mk (below_step (by repeat (first | (with_reducible first | exact HB.out | apply below_alloc | apply pw_below_drewN | apply below_drew1) | exact HB.out)) hb); clear HB; have HB := n0_; clear n0_; (try clear hb); (try clear hb2); (try clear hk); (try clear hi)) | (go_at_call 11; (with_reducible refine (num_Op.calls 4 t208 (wrap64 (a1)) t209 _ A71.out).mono ?_); rintro e w84 ⟨rfl, hb⟩; have n0_ := Aside0.mk (below_step (by repeat (first | (with_reducible first | exact HB.out | apply below_alloc | apply pw_below_drewN | apply below_drew1) | exact HB.out)) hb); clear HB; have HB := n0_; clear n0_; (try clear hb); (try clear hb2); (try clear hk); (try clear hi)))
                    go_ret
                    exact ⟨by first | rfl | (simp [errW_none, errW_some] <;> rfl) | (simp [*, errW_none, errW_some] <;> rfl), by repeat (first | (with_reducible first | exact HB.out | apply below_alloc | apply pw_below_drewN | apply below_drew1) | exact HB.out)⟩
                · rw [if_neg c69] at H
                  have c69b0 : (t204 == t207) = false := beq_eq_false_iff_ne.mpr c69
                  have c69b1 : (t204 != t207) = true := bne_iff_ne.mpr c69
                  obtain rfl := Option.some.inj H
                  go_wp2_with (first | ((with_reducible refine gate_callee (f := 11) rfl ?_); refine goesL_ (some 104) rfl rfl Try.func11 (by kernel_rfl) rfl #[.int .i64 6, .int .i64 t190, .int .i64 (wrap64 (a2))] rfl (by (try simp only [List.map_toArray, List.map_cons, List.map_nil]); first | done | rfl | (simp only [List.length_drop, List.length_take]; rfl)) ?_; (with_reducible refine (num_Op.calls 6 t190 (wrap64 (a2)) t204 _ A65.out).mono ?_); rintro e w85 ⟨rfl, hb⟩; refine ⟨_, rfl, ?_⟩; have n0_ := Aside0.mk (below_step (by repeat (first | (with_reducible first | exact HB.out | apply below_alloc | apply pw_below_drewN | apply below_drew1) | exact HB.out)) hb); clear HB; have HB := n0_; clear n0_; (try clear hb); (try clear hb2); (try clear hk); (try clear hi)) | ((with_reducible refine gate_callee (f := 11) rfl ?_); refine goesL_ (some 107) rfl rfl Try.func11 (by kernel_rfl) rfl #[.int .i64 6, .int .i64 (wrap64 (a0)), .int .i64 (wrap64 (a2))] rfl (by (try simp only [List.map_toArray, List.map_cons, List.map_nil]); first | done | rfl | (simp only [List.length_drop, List.length_take]; rfl)) ?_; (with_reducible refine (num_Op.calls 6 (wrap64 (a0)) (wrap64 (a2)) t205 _ A66.out).mono ?_); rintro e w86 ⟨rfl, hb⟩; refine ⟨_, rfl, ?_⟩; have n0_ := Aside0.mk (below_step (by repeat (first | (with_reducible first | exact HB.out | apply below_alloc | apply pw_below_drewN | apply below_drew1) | exact HB.out)) hb); clear HB; have HB := n0_; clear n0_; (try clear hb); (try clear hb2); (try clear hk); (try clear hi)) | ((with_reducible refine gate_callee (f := 11) rfl ?_); refine goesL_ (some 110) rfl rfl Try.func11 (by kernel_rfl) rfl #[.int .i64 6, .int .i64 (wrap64 (a1)), .int .i64 (wrap64 (a2))] rfl (by (try simp only [List.map_toArray, List.map_cons, List.map_nil]); first | done | rfl | (simp only [List.length_drop, List.length_take]; rfl)) ?_; (with_reducible refine (num_Op.calls 6 (wrap64 (a1)) (wrap64 (a2)) t206 _ A67.out).mono ?_); rintro e w87 ⟨rfl, hb⟩; refine ⟨_, rfl, ?_⟩; have n0_ := Aside0.mk (below_step (by repeat (first | (with_reducible first | exact HB.out | apply below_alloc | apply pw_below_drewN | apply below_drew1) | exact HB.out)) hb); clear HB; have HB := n0_; clear n0_; (try clear hb); (try clear hb2); (try clear hk); (try clear hi)) | ((with_reducible refine gate_callee (f := 11) rfl ?_); refine goesL_ (some 111) rfl rfl Try.func11 (by kernel_rfl) rfl #[.int .i64 4, .int .i64 t205, .int .i64 t206] rfl (by (try simp only [List.map_toArray, List.map_cons, List.map_nil]); first | done | rfl | (simp only [List.length_drop, List.length_take]; rfl)) ?_; (with_reducible refine (num_Op.calls 4 t205 t206 t207 _ A68.out).mono ?_); rintro e w88 ⟨rfl, hb⟩; refine ⟨_, rfl, ?_⟩; have n0_ := Aside0.mk (below_step (by repeat (first | (with_reducible first | exact HB.out | apply below_alloc | apply pw_below_drewN | apply below_drew1) | exact HB.out)) hb); clear HB; have HB := n0_; clear n0_; (try clear hb); (try clear hb2); (try clear hk); (try clear hi)))
                  go_ret
                  exact ⟨by first | rfl | (simp [errW_none, errW_some] <;> rfl) | (simp [*, errW_none, errW_some] <;> rfl), by repeat (first | (with_reducible first | exact HB.out | apply below_alloc | apply pw_below_drewN | apply below_drew1) | exact HB.out)⟩
  · replace c5 := Bool.eq_false_iff.mpr c5
    subst c5
    have H1 : (some false) = some r := by rw [if_neg (show ¬ (false = true) by decide)] at H; exact H
    clear H
    have H := H1
    clear H1
    obtain rfl := Option.some.inj H
    go_enter Try.func3, Try.ntmps3
    go_wp2_with (first | ((with_reducible refine gate_callee (f := 10) rfl ?_); refine goesL_ (some 13) rfl rfl Try.func10 (by kernel_rfl) rfl #[] rfl (by (try simp only [List.map_toArray, List.map_cons, List.map_nil]); first | done | rfl | (simp only [List.length_drop, List.length_take]; rfl)) ?_; (with_reducible refine (parolelaw01_examples.calls k  false _ A4.out).mono ?_); rintro e w89 ⟨rfl, hb⟩; refine ⟨_, rfl, ?_⟩; have n0_ := Aside0.mk (below_step (by repeat (first | (with_reducible first | exact HB.out | apply below_alloc | apply pw_below_drewN | apply below_drew1) | exact HB.out)) hb); clear HB; have HB := n0_; clear n0_; (try clear hb); (try clear hb2); (try clear hk); (try clear hi)))
    go_ret
    exact ⟨by first | rfl | (simp [errW_none, errW_some] <;> rfl) | (simp [*, errW_none, errW_some] <;> rfl), by repeat (first | (with_reducible first | exact HB.out | apply below_alloc | apply pw_below_drewN | apply below_drew1) | exact HB.out)⟩

/-- THE ONE PURE STATEMENT of parolelaw01_NumRing: yours. -/
def parolelaw01_NumRing.Pure : Prop := ∀ (a0 : Int) (a1 : Int) (a2 : Int), (Lit.int .i32 a0).wf = true → (Lit.int .i32 a1).wf = true → (Lit.int .i32 a2).wf = true → ∃ k, parolelaw01_NumRing.f k a0 a1 a2 = some true
theorem parolelaw01_NumRing.walk (P : parolelaw01_NumRing.Pure) (a0 : Int) (a1 : Int) (a2 : Int) (w : World) (w0 : (Lit.int .i32 a0).wf = true) (w1 : (Lit.int .i32 a1).wf = true) (w2 : (Lit.int .i32 a2).wf = true) :
    Calls Try.prog 3 #[.int .i32 a0, .int .i32 a1, .int .i32 a2] w fun e w' => e = .returned (.bool true) ∧ Below w.heap.size w w' := by
  obtain ⟨k, h⟩ := P a0 a1 a2 w0 w1 w2
  refine (parolelaw01_NumRing.calls k a0 a1 a2 true w h).mono ?_
  rintro e w' ⟨rfl, hd⟩
  exact ⟨rfl, hd⟩

/-! ### parolelaw01_NumDivides: function 4 -/
def parolelaw01_NumDivides.f (k : Nat) (a0 : Int) (a1 : Int) : Option (Bool) := (parolelaw01_examples.f k).bind fun t210 => (if t210 = true then ((num_Op.f 7 (wrap64 (a0)) (wrap64 (a1))).bind fun t211 => ((num_Op.f 8 (wrap64 (a0)) (wrap64 (a1))).bind fun t212 => (if (wrap64 (a1)) = 0 then (if t211 = 0 then (if t212 = (wrap64 (a0)) then (some t210) else (some false)) else (some false)) else ((parolelaw01_congruent.f (wrap64 ((wrap64 ((wrap64 (a1)) * t211)) + t212)) (wrap64 (a0))).bind fun t213 => (if t213 = true then (if t212 > 0 then (if (wrap64 (a0)) < 0 then (some false) else (if t212 < 0 then (if (wrap64 (a0)) > 0 then (some false) else (if (mx t212 (wrap64 (-t212))) < (mx (wrap64 (a1)) (wrap64 (-(wrap64 (a1))))) then (if (mx t212 (wrap64 (-t212))) ≤ (mx (wrap64 (a0)) (wrap64 (-(wrap64 (a0))))) then (some t210) else (some false)) else (some false))) else (if (mx t212 (wrap64 (-t212))) < (mx (wrap64 (a1)) (wrap64 (-(wrap64 (a1))))) then (if (mx t212 (wrap64 (-t212))) ≤ (mx (wrap64 (a0)) (wrap64 (-(wrap64 (a0))))) then (some t210) else (some false)) else (some false)))) else (if t212 < 0 then (if (wrap64 (a0)) > 0 then (some false) else (if (mx t212 (wrap64 (-t212))) < (mx (wrap64 (a1)) (wrap64 (-(wrap64 (a1))))) then (if (mx t212 (wrap64 (-t212))) ≤ (mx (wrap64 (a0)) (wrap64 (-(wrap64 (a0))))) then (some t210) else (some false)) else (some false))) else (if (mx t212 (wrap64 (-t212))) < (mx (wrap64 (a1)) (wrap64 (-(wrap64 (a1))))) then (if (mx t212 (wrap64 (-t212))) ≤ (mx (wrap64 (a0)) (wrap64 (-(wrap64 (a0))))) then (some t210) else (some false)) else (some false)))) else (some false)))))) else (some false))
theorem parolelaw01_NumDivides.mono : ∀ a0 a1 k, LeO (parolelaw01_NumDivides.f k a0 a1) (parolelaw01_NumDivides.f (k + 1) a0 a1) := by
  intro a0 a1 k
  unfold parolelaw01_NumDivides.f
  repeat' first
      | (with_reducible exact parolelaw01_examples.mono _)
      | (with_reducible exact LeO.refl _)
      | (with_reducible exact LeO.none _)
      | (with_reducible refine LeO.ite ?_ ?_)
      | (with_reducible refine LeO.bind ?_ (fun _ => ?_))
      | exact parolelaw01_examples.mono _
      | exact LeO.none _
      | refine LeO.ite ?_ ?_
      | refine LeO.bind ?_ (fun _ => ?_)
set_option maxHeartbeats 8000000 in
set_option maxRecDepth 100000 in
theorem parolelaw01_NumDivides.calls (k : Nat) (a0 : Int) (a1 : Int) (r : Bool) (w : World) (h : parolelaw01_NumDivides.f k a0 a1 = some r) :
    Calls Try.prog 4 #[.int .i32 a0, .int .i32 a1] w fun e w' => e = .returned (.bool r) ∧ Below w.heap.size w w' := by
  have HB := Aside0.mk (Below.refl w.heap.size w)
  have H : ((parolelaw01_examples.f k).bind fun t210 => (if t210 = true then ((num_Op.f 7 (wrap64 (a0)) (wrap64 (a1))).bind fun t211 => ((num_Op.f 8 (wrap64 (a0)) (wrap64 (a1))).bind fun t212 => (if (wrap64 (a1)) = 0 then (if t211 = 0 then (if t212 = (wrap64 (a0)) then (some t210) else (some false)) else (some false)) else ((parolelaw01_congruent.f (wrap64 ((wrap64 ((wrap64 (a1)) * t211)) + t212)) (wrap64 (a0))).bind fun t213 => (if t213 = true then (if t212 > 0 then (if (wrap64 (a0)) < 0 then (some false) else (if t212 < 0 then (if (wrap64 (a0)) > 0 then (some false) else (if (mx t212 (wrap64 (-t212))) < (mx (wrap64 (a1)) (wrap64 (-(wrap64 (a1))))) then (if (mx t212 (wrap64 (-t212))) ≤ (mx (wrap64 (a0)) (wrap64 (-(wrap64 (a0))))) then (some t210) else (some false)) else (some false))) else (if (mx t212 (wrap64 (-t212))) < (mx (wrap64 (a1)) (wrap64 (-(wrap64 (a1))))) then (if (mx t212 (wrap64 (-t212))) ≤ (mx (wrap64 (a0)) (wrap64 (-(wrap64 (a0))))) then (some t210) else (some false)) else (some false)))) else (if t212 < 0 then (if (wrap64 (a0)) > 0 then (some false) else (if (mx t212 (wrap64 (-t212))) < (mx (wrap64 (a1)) (wrap64 (-(wrap64 (a1))))) then (if (mx t212 (wrap64 (-t212))) ≤ (mx (wrap64 (a0)) (wrap64 (-(wrap64 (a0))))) then (some t210) else (some false)) else (some false))) else (if (mx t212 (wrap64 (-t212))) < (mx (wrap64 (a1)) (wrap64 (-(wrap64 (a1))))) then (if (mx t212 (wrap64 (-t212))) ≤ (mx (wrap64 (a0)) (wrap64 (-(wrap64 (a0))))) then (some t210) else (some false)) else (some false)))) else (some false)))))) else (some false))) = some r := h
  clear h
  replace H := Option.bind_eq_some_iff.mp H
  obtain ⟨t210, A30, H⟩ := H
  replace H : (if t210 = true then ((num_Op.f 7 (wrap64 (a0)) (wrap64 (a1))).bind fun t211 => ((num_Op.f 8 (wrap64 (a0)) (wrap64 (a1))).bind fun t212 => (if (wrap64 (a1)) = 0 then (if t211 = 0 then (if t212 = (wrap64 (a0)) then (some t210) else (some false)) else (some false)) else ((parolelaw01_congruent.f (wrap64 ((wrap64 ((wrap64 (a1)) * t211)) + t212)) (wrap64 (a0))).bind fun t213 => (if t213 = true then (if t212 > 0 then (if (wrap64 (a0)) < 0 then (some false) else (if t212 < 0 then (if (wrap64 (a0)) > 0 then (some false) else (if (mx t212 (wrap64 (-t212))) < (mx (wrap64 (a1)) (wrap64 (-(wrap64 (a1))))) then (if (mx t212 (wrap64 (-t212))) ≤ (mx (wrap64 (a0)) (wrap64 (-(wrap64 (a0))))) then (some t210) else (some false)) else (some false))) else (if (mx t212 (wrap64 (-t212))) < (mx (wrap64 (a1)) (wrap64 (-(wrap64 (a1))))) then (if (mx t212 (wrap64 (-t212))) ≤ (mx (wrap64 (a0)) (wrap64 (-(wrap64 (a0))))) then (some t210) else (some false)) else (some false)))) else (if t212 < 0 then (if (wrap64 (a0)) > 0 then (some false) else (if (mx t212 (wrap64 (-t212))) < (mx (wrap64 (a1)) (wrap64 (-(wrap64 (a1))))) then (if (mx t212 (wrap64 (-t212))) ≤ (mx (wrap64 (a0)) (wrap64 (-(wrap64 (a0))))) then (some t210) else (some false)) else (some false))) else (if (mx t212 (wrap64 (-t212))) < (mx (wrap64 (a1)) (wrap64 (-(wrap64 (a1))))) then (if (mx t212 (wrap64 (-t212))) ≤ (mx (wrap64 (a0)) (wrap64 (-(wrap64 (a0))))) then (some t210) else (some false)) else (some false)))) else (some false)))))) else (some false)) = some r := H
  have A3 := Aside0.mk A30
  clear A30
  by_cases c4 : t210 = true
  · subst c4
    have H1 : ((num_Op.f 7 (wrap64 (a0)) (wrap64 (a1))).bind fun t211 => ((num_Op.f 8 (wrap64 (a0)) (wrap64 (a1))).bind fun t212 => (if (wrap64 (a1)) = 0 then (if t211 = 0 then (if t212 = (wrap64 (a0)) then (some true) else (some false)) else (some false)) else ((parolelaw01_congruent.f (wrap64 ((wrap64 ((wrap64 (a1)) * t211)) + t212)) (wrap64 (a0))).bind fun t213 => (if t213 = true then (if t212 > 0 then (if (wrap64 (a0)) < 0 then (some false) else (if t212 < 0 then (if (wrap64 (a0)) > 0 then (some false) else (if (mx t212 (wrap64 (-t212))) < (mx (wrap64 (a1)) (wrap64 (-(wrap64 (a1))))) then (if (mx t212 (wrap64 (-t212))) ≤ (mx (wrap64 (a0)) (wrap64 (-(wrap64 (a0))))) then (some true) else (some false)) else (some false))) else (if (mx t212 (wrap64 (-t212))) < (mx (wrap64 (a1)) (wrap64 (-(wrap64 (a1))))) then (if (mx t212 (wrap64 (-t212))) ≤ (mx (wrap64 (a0)) (wrap64 (-(wrap64 (a0))))) then (some true) else (some false)) else (some false)))) else (if t212 < 0 then (if (wrap64 (a0)) > 0 then (some false) else (if (mx t212 (wrap64 (-t212))) < (mx (wrap64 (a1)) (wrap64 (-(wrap64 (a1))))) then (if (mx t212 (wrap64 (-t212))) ≤ (mx (wrap64 (a0)) (wrap64 (-(wrap64 (a0))))) then (some true) else (some false)) else (some false))) else (if (mx t212 (wrap64 (-t212))) < (mx (wrap64 (a1)) (wrap64 (-(wrap64 (a1))))) then (if (mx t212 (wrap64 (-t212))) ≤ (mx (wrap64 (a0)) (wrap64 (-(wrap64 (a0))))) then (some true) else (some false)) else (some false)))) else (some false)))))) = some r := by rw [if_pos rfl] at H; exact H
    clear H
    have H := H1
    clear H1
    replace H := Option.bind_eq_some_iff.mp H
    obtain ⟨t211, A50, H⟩ := H
    replace H : ((num_Op.f 8 (wrap64 (a0)) (wrap64 (a1))).bind fun t212 => (if (wrap64 (a1)) = 0 then (if t211 = 0 then (if t212 = (wrap64 (a0)) then (some true) else (some false)) else (some false)) else ((parolelaw01_congruent.f (wrap64 ((wrap64 ((wrap64 (a1)) * t211)) + t212)) (wrap64 (a0))).bind fun t213 => (if t213 = true then (if t212 > 0 then (if (wrap64 (a0)) < 0 then (some false) else (if t212 < 0 then (if (wrap64 (a0)) > 0 then (some false) else (if (mx t212 (wrap64 (-t212))) < (mx (wrap64 (a1)) (wrap64 (-(wrap64 (a1))))) then (if (mx t212 (wrap64 (-t212))) ≤ (mx (wrap64 (a0)) (wrap64 (-(wrap64 (a0))))) then (some true) else (some false)) else (some false))) else (if (mx t212 (wrap64 (-t212))) < (mx (wrap64 (a1)) (wrap64 (-(wrap64 (a1))))) then (if (mx t212 (wrap64 (-t212))) ≤ (mx (wrap64 (a0)) (wrap64 (-(wrap64 (a0))))) then (some true) else (some false)) else (some false)))) else (if t212 < 0 then (if (wrap64 (a0)) > 0 then (some false) else (if (mx t212 (wrap64 (-t212))) < (mx (wrap64 (a1)) (wrap64 (-(wrap64 (a1))))) then (if (mx t212 (wrap64 (-t212))) ≤ (mx (wrap64 (a0)) (wrap64 (-(wrap64 (a0))))) then (some true) else (some false)) else (some false))) else (if (mx t212 (wrap64 (-t212))) < (mx (wrap64 (a1)) (wrap64 (-(wrap64 (a1))))) then (if (mx t212 (wrap64 (-t212))) ≤ (mx (wrap64 (a0)) (wrap64 (-(wrap64 (a0))))) then (some true) else (some false)) else (some false)))) else (some false))))) = some r := H
    have A5 := Aside0.mk A50
    clear A50
    replace H := Option.bind_eq_some_iff.mp H
    obtain ⟨t212, A60, H⟩ := H
    replace H : (if (wrap64 (a1)) = 0 then (if t211 = 0 then (if t212 = (wrap64 (a0)) then (some true) else (some false)) else (some false)) else ((parolelaw01_congruent.f (wrap64 ((wrap64 ((wrap64 (a1)) * t211)) + t212)) (wrap64 (a0))).bind fun t213 => (if t213 = true then (if t212 > 0 then (if (wrap64 (a0)) < 0 then (some false) else (if t212 < 0 then (if (wrap64 (a0)) > 0 then (some false) else (if (mx t212 (wrap64 (-t212))) < (mx (wrap64 (a1)) (wrap64 (-(wrap64 (a1))))) then (if (mx t212 (wrap64 (-t212))) ≤ (mx (wrap64 (a0)) (wrap64 (-(wrap64 (a0))))) then (some true) else (some false)) else (some false))) else (if (mx t212 (wrap64 (-t212))) < (mx (wrap64 (a1)) (wrap64 (-(wrap64 (a1))))) then (if (mx t212 (wrap64 (-t212))) ≤ (mx (wrap64 (a0)) (wrap64 (-(wrap64 (a0))))) then (some true) else (some false)) else (some false)))) else (if t212 < 0 then (if (wrap64 (a0)) > 0 then (some false) else (if (mx t212 (wrap64 (-t212))) < (mx (wrap64 (a1)) (wrap64 (-(wrap64 (a1))))) then (if (mx t212 (wrap64 (-t212))) ≤ (mx (wrap64 (a0)) (wrap64 (-(wrap64 (a0))))) then (some true) else (some false)) else (some false))) else (if (mx t212 (wrap64 (-t212))) < (mx (wrap64 (a1)) (wrap64 (-(wrap64 (a1))))) then (if (mx t212 (wrap64 (-t212))) ≤ (mx (wrap64 (a0)) (wrap64 (-(wrap64 (a0))))) then (some true) else (some false)) else (some false)))) else (some false)))) = some r := H
    have A6 := Aside0.mk A60
    clear A60
    by_cases c7 : (wrap64 (a1)) = 0
    · rw [if_pos c7] at H
      have c7b0 : ((wrap64 (a1)) == 0) = true := beq_iff_eq.mpr c7
      have c7b1 : ((wrap64 (a1)) != 0) = false := bne_eq_false_iff_eq.mpr c7
      clear c7
      by_cases c8 : t211 = 0
      · rw [if_pos c8] at H
        have c8b0 : (t211 == 0) = true := beq_iff_eq.mpr c8
        have c8b1 : (t211 != 0) = false := bne_eq_false_iff_eq.mpr c8
        clear c8
        by_cases c9 : t212 = (wrap64 (a0))
        · rw [if_pos c9] at H
          have c9b0 : (t212 == (wrap64 (a0))) = true := beq_iff_eq.mpr c9
          have c9b1 : (t212 != (wrap64 (a0))) = false := bne_eq_false_iff_eq.mpr c9
          clear c9
          obtain rfl := Option.some.inj H
          go_enter Try.func4, Try.ntmps4
          go_wp2_with (first | ((with_reducible refine gate_callee (f := 10) rfl ?_); refine goesL_ (some 10) rfl rfl Try.func10 (by kernel_rfl) rfl #[] rfl (by (try simp only [List.map_toArray, List.map_cons, List.map_nil]); first | done | rfl | (simp only [List.length_drop, List.length_take]; rfl)) ?_; (with_reducible refine (parolelaw01_examples.calls k  true _ A3.out).mono ?_); rintro e w10 ⟨rfl, hb⟩; refine ⟨_, rfl, ?_⟩; have n0_ := Aside0.mk (below_step (by repeat (first | (with_reducible first | exact HB.out | apply below_alloc | apply pw_below_drewN | apply below_drew1) | exact HB.out)) hb); clear HB; have HB := n0_; clear n0_; (try clear hb); (try clear hb2); (try clear hk); (try clear hi)) | ((with_reducible refine gate_callee (f := 11) rfl ?_); refine goesL_ (some 19) rfl rfl Try.func11 (by kernel_rfl) rfl #[.int .i64 7, .int .i64 (wrap64 (a0)), .int .i64 (wrap64 (a1))] rfl (by (try simp only [List.map_toArray, List.map_cons, List.map_nil]); first | done | rfl | (simp only [List.length_drop, List.length_take]; rfl)) ?_; (with_reducible refine (num_Op.calls 7 (wrap64 (a0)) (wrap64 (a1)) t211 _ A5.out).mono ?_); rintro e w11 ⟨rfl, hb⟩; refine ⟨_, rfl, ?_⟩; have n0_ := Aside0.mk (below_step (by repeat (first | (with_reducible first | exact HB.out | apply below_alloc | apply pw_below_drewN | apply below_drew1) | exact HB.out)) hb); clear HB; have HB := n0_; clear n0_; (try clear hb); (try clear hb2); (try clear hk); (try clear hi)) | ((with_reducible refine gate_callee (f := 11) rfl ?_); refine goesL_ (some 22) rfl rfl Try.func11 (by kernel_rfl) rfl #[.int .i64 8, .int .i64 (wrap64 (a0)), .int .i64 (wrap64 (a1))] rfl (by (try simp only [List.map_toArray, List.map_cons, List.map_nil]); first | done | rfl | (simp only [List.length_drop, List.length_take]; rfl)) ?_; (with_reducible refine (num_Op.calls 8 (wrap64 (a0)) (wrap64 (a1)) t212 _ A6.out).mono ?_); rintro e w12 ⟨rfl, hb⟩; refine ⟨_, rfl, ?_⟩; have n0_ := Aside0.mk (below_step (by repeat (first | (with_reducible first | exact HB.out | apply below_alloc | apply pw_below_drewN | apply below_drew1) | exact HB.out)) hb); clear HB; have HB := n0_; clear n0_; (try clear hb); (try clear hb2); (try clear hk); (try clear hi)))
          go_ret
          exact ⟨by first | rfl | (simp [errW_none, errW_some] <;> rfl) | (simp [*, errW_none, errW_some] <;> rfl), by repeat (first | (with_reducible first | exact HB.out | apply below_alloc | apply pw_below_drewN | apply below_drew1) | exact HB.out)⟩
        · rw [if_neg c9] at H
          have c9b0 : (t212 == (wrap64 (a0))) = false := beq_eq_false_iff_ne.mpr c9
          have c9b1 : (t212 != (wrap64 (a0))) = true := bne_iff_ne.mpr c9
          obtain rfl := Option.some.inj H
          go_enter Try.func4, Try.ntmps4
          go_wp2_with (first | ((with_reducible refine gate_callee (f := 10) rfl ?_); refine goesL_ (some 10) rfl rfl Try.func10 (by kernel_rfl) rfl #[] rfl (by (try simp only [List.map_toArray, List.map_cons, List.map_nil]); first | done | rfl | (simp only [List.length_drop, List.length_take]; rfl)) ?_; (with_reducible refine (parolelaw01_examples.calls k  true _ A3.out).mono ?_); rintro e w13 ⟨rfl, hb⟩; refine ⟨_, rfl, ?_⟩; have n0_ := Aside0.mk (below_step (by repeat (first | (with_reducible first | exact HB.out | apply below_alloc | apply pw_below_drewN | apply below_drew1) | exact HB.out)) hb); clear HB; have HB := n0_; clear n0_; (try clear hb); (try clear hb2); (try clear hk); (try clear hi)) | ((with_reducible refine gate_callee (f := 11) rfl ?_); refine goesL_ (some 19) rfl rfl Try.func11 (by kernel_rfl) rfl #[.int .i64 7, .int .i64 (wrap64 (a0)), .int .i64 (wrap64 (a1))] rfl (by (try simp only [List.map_toArray, List.map_cons, List.map_nil]); first | done | rfl | (simp only [List.length_drop, List.length_take]; rfl)) ?_; (with_reducible refine (num_Op.calls 7 (wrap64 (a0)) (wrap64 (a1)) t211 _ A5.out).mono ?_); rintro e w14 ⟨rfl, hb⟩; refine ⟨_, rfl, ?_⟩; have n0_ := Aside0.mk (below_step (by repeat (first | (with_reducible first | exact HB.out | apply below_alloc | apply pw_below_drewN | apply below_drew1) | exact HB.out)) hb); clear HB; have HB := n0_; clear n0_; (try clear hb); (try clear hb2); (try clear hk); (try clear hi)) | ((with_reducible refine gate_callee (f := 11) rfl ?_); refine goesL_ (some 22) rfl rfl Try.func11 (by kernel_rfl) rfl #[.int .i64 8, .int .i64 (wrap64 (a0)), .int .i64 (wrap64 (a1))] rfl (by (try simp only [List.map_toArray, List.map_cons, List.map_nil]); first | done | rfl | (simp only [List.length_drop, List.length_take]; rfl)) ?_; (with_reducible refine (num_Op.calls 8 (wrap64 (a0)) (wrap64 (a1)) t212 _ A6.out).mono ?_); rintro e w15 ⟨rfl, hb⟩; refine ⟨_, rfl, ?_⟩; have n0_ := Aside0.mk (below_step (by repeat (first | (with_reducible first | exact HB.out | apply below_alloc | apply pw_below_drewN | apply below_drew1) | exact HB.out)) hb); clear HB; have HB := n0_; clear n0_; (try clear hb); (try clear hb2); (try clear hk); (try clear hi)))
          go_ret
          exact ⟨by first | rfl | (simp [errW_none, errW_some] <;> rfl) | (simp [*, errW_none, errW_some] <;> rfl), by repeat (first | (with_reducible first | exact HB.out | apply below_alloc | apply pw_below_drewN | apply below_drew1) | exact HB.out)⟩
      · rw [if_neg c8] at H
        have c8b0 : (t211 == 0) = false := beq_eq_false_iff_ne.mpr c8
        have c8b1 : (t211 != 0) = true := bne_iff_ne.mpr c8
        obtain rfl := Option.some.inj H
        go_enter Try.func4, Try.ntmps4
        go_wp2_with (first | ((with_reducible refine gate_callee (f := 10) rfl ?_); refine goesL_ (some 10) rfl rfl Try.func10 (by kernel_rfl) rfl #[] rfl (by (try simp only [List.map_toArray, List.map_cons, List.map_nil]); first | done | rfl | (simp only [List.length_drop, List.length_take]; rfl)) ?_; (with_reducible refine (parolelaw01_examples.calls k  true _ A3.out).mono ?_); rintro e w16 ⟨rfl, hb⟩; refine ⟨_, rfl, ?_⟩; have n0_ := Aside0.mk (below_step (by repeat (first | (with_reducible first | exact HB.out | apply below_alloc | apply pw_below_drewN | apply below_drew1) | exact HB.out)) hb); clear HB; have HB := n0_; clear n0_; (try clear hb); (try clear hb2); (try clear hk); (try clear hi)) | ((with_reducible refine gate_callee (f := 11) rfl ?_); refine goesL_ (some 19) rfl rfl Try.func11 (by kernel_rfl) rfl #[.int .i64 7, .int .i64 (wrap64 (a0)), .int .i64 (wrap64 (a1))] rfl (by (try simp only [List.map_toArray, List.map_cons, List.map_nil]); first | done | rfl | (simp only [List.length_drop, List.length_take]; rfl)) ?_; (with_reducible refine (num_Op.calls 7 (wrap64 (a0)) (wrap64 (a1)) t211 _ A5.out).mono ?_); rintro e w17 ⟨rfl, hb⟩; refine ⟨_, rfl, ?_⟩; have n0_ := Aside0.mk (below_step (by repeat (first | (with_reducible first | exact HB.out | apply below_alloc | apply pw_below_drewN | apply below_drew1) | exact HB.out)) hb); clear HB; have HB := n0_; clear n0_; (try clear hb); (try clear hb2); (try clear hk); (try clear hi)) | ((with_reducible refine gate_callee (f := 11) rfl ?_); refine goesL_ (some 22) rfl rfl Try.func11 (by kernel_rfl) rfl #[.int .i64 8, .int .i64 (wrap64 (a0)), .int .i64 (wrap64 (a1))] rfl (by (try simp only [List.map_toArray, List.map_cons, List.map_nil]); first | done | rfl | (simp only [List.length_drop, List.length_take]; rfl)) ?_; (with_reducible refine (num_Op.calls 8 (wrap64 (a0)) (wrap64 (a1)) t212 _ A6.out).mono ?_); rintro e w18 ⟨rfl, hb⟩; refine ⟨_, rfl, ?_⟩; have n0_ := Aside0.mk (below_step (by repeat (first | (with_reducible first | exact HB.out | apply below_alloc | apply pw_below_drewN | apply below_drew1) | exact HB.out)) hb); clear HB; have HB := n0_; clear n0_; (try clear hb); (try clear hb2); (try clear hk); (try clear hi)))
        go_ret
        exact ⟨by first | rfl | (simp [errW_none, errW_some] <;> rfl) | (simp [*, errW_none, errW_some] <;> rfl), by repeat (first | (with_reducible first | exact HB.out | apply below_alloc | apply pw_below_drewN | apply below_drew1) | exact HB.out)⟩
    · rw [if_neg c7] at H
      have c7b0 : ((wrap64 (a1)) == 0) = false := beq_eq_false_iff_ne.mpr c7
      have c7b1 : ((wrap64 (a1)) != 0) = true := bne_iff_ne.mpr c7
      replace H := Option.bind_eq_some_iff.mp H
      obtain ⟨t213, A190, H⟩ := H
      replace H : (if t213 = true then (if t212 > 0 then (if (wrap64 (a0)) < 0 then (some false) else (if t212 < 0 then (if (wrap64 (a0)) > 0 then (some false) else (if (mx t212 (wrap64 (-t212))) < (mx (wrap64 (a1)) (wrap64 (-(wrap64 (a1))))) then (if (mx t212 (wrap64 (-t212))) ≤ (mx (wrap64 (a0)) (wrap64 (-(wrap64 (a0))))) then (some true) else (some false)) else (some false))) else (if (mx t212 (wrap64 (-t212))) < (mx (wrap64 (a1)) (wrap64 (-(wrap64 (a1))))) then (if (mx t212 (wrap64 (-t212))) ≤ (mx (wrap64 (a0)) (wrap64 (-(wrap64 (a0))))) then (some true) else (some false)) else (some false)))) else (if t212 < 0 then (if (wrap64 (a0)) > 0 then (some false) else (if (mx t212 (wrap64 (-t212))) < (mx (wrap64 (a1)) (wrap64 (-(wrap64 (a1))))) then (if (mx t212 (wrap64 (-t212))) ≤ (mx (wrap64 (a0)) (wrap64 (-(wrap64 (a0))))) then (some true) else (some false)) else (some false))) else (if (mx t212 (wrap64 (-t212))) < (mx (wrap64 (a1)) (wrap64 (-(wrap64 (a1))))) then (if (mx t212 (wrap64 (-t212))) ≤ (mx (wrap64 (a0)) (wrap64 (-(wrap64 (a0))))) then (some true) else (some false)) else (some false)))) else (some false)) = some r := H
      have A19 := Aside0.mk A190
      clear A190
      by_cases c20 : t213 = true
      · subst c20
        have H1 : (if t212 > 0 then (if (wrap64 (a0)) < 0 then (some false) else (if t212 < 0 then (if (wrap64 (a0)) > 0 then (some false) else (if (mx t212 (wrap64 (-t212))) < (mx (wrap64 (a1)) (wrap64 (-(wrap64 (a1))))) then (if (mx t212 (wrap64 (-t212))) ≤ (mx (wrap64 (a0)) (wrap64 (-(wrap64 (a0))))) then (some true) else (some false)) else (some false))) else (if (mx t212 (wrap64 (-t212))) < (mx (wrap64 (a1)) (wrap64 (-(wrap64 (a1))))) then (if (mx t212 (wrap64 (-t212))) ≤ (mx (wrap64 (a0)) (wrap64 (-(wrap64 (a0))))) then (some true) else (some false)) else (some false)))) else (if t212 < 0 then (if (wrap64 (a0)) > 0 then (some false) else (if (mx t212 (wrap64 (-t212))) < (mx (wrap64 (a1)) (wrap64 (-(wrap64 (a1))))) then (if (mx t212 (wrap64 (-t212))) ≤ (mx (wrap64 (a0)) (wrap64 (-(wrap64 (a0))))) then (some true) else (some false)) else (some false))) else (if (mx t212 (wrap64 (-t212))) < (mx (wrap64 (a1)) (wrap64 (-(wrap64 (a1))))) then (if (mx t212 (wrap64 (-t212))) ≤ (mx (wrap64 (a0)) (wrap64 (-(wrap64 (a0))))) then (some true) else (some false)) else (some false)))) = some r := by rw [if_pos rfl] at H; exact H
        clear H
        have H := H1
        clear H1
        by_cases c21 : t212 > 0
        · rw [if_pos c21] at H
          have c21b0 : decide (0 < t212) = true := decide_eq_true c21
          clear c21
          by_cases c22 : (wrap64 (a0)) < 0
          · rw [if_pos c22] at H
            have c22b0 : decide ((wrap64 (a0)) < 0) = true := decide_eq_true c22
            clear c22
            obtain rfl := Option.some.inj H
            go_enter Try.func4, Try.ntmps4
            go_wp2_with (first | ((with_reducible refine gate_callee (f := 10) rfl ?_); refine goesL_ (some 10) rfl rfl Try.func10 (by kernel_rfl) rfl #[] rfl (by (try simp only [List.map_toArray, List.map_cons, List.map_nil]); first | done | rfl | (simp only [List.length_drop, List.length_take]; rfl)) ?_; (with_reducible refine (parolelaw01_examples.calls k  true _ A3.out).mono ?_); rintro e w23 ⟨rfl, hb⟩; refine ⟨_, rfl, ?_⟩; have n0_ := Aside0.mk (below_step (by repeat (first | (with_reducible first | exact HB.out | apply below_alloc | apply pw_below_drewN | apply below_drew1) | exact HB.out)) hb); clear HB; have HB := n0_; clear n0_; (try clear hb); (try clear hb2); (try clear hk); (try clear hi)) | ((with_reducible refine gate_callee (f := 11) rfl ?_); refine goesL_ (some 19) rfl rfl Try.func11 (by kernel_rfl) rfl #[.int .i64 7, .int .i64 (wrap64 (a0)), .int .i64 (wrap64 (a1))] rfl (by (try simp only [List.map_toArray, List.map_cons, List.map_nil]); first | done | rfl | (simp only [List.length_drop, List.length_take]; rfl)) ?_; (with_reducible refine (num_Op.calls 7 (wrap64 (a0)) (wrap64 (a1)) t211 _ A5.out).mono ?_); rintro e w24 ⟨rfl, hb⟩; refine ⟨_, rfl, ?_⟩; have n0_ := Aside0.mk (below_step (by repeat (first | (with_reducible first | exact HB.out | apply below_alloc | apply pw_below_drewN | apply below_drew1) | exact HB.out)) hb); clear HB; have HB := n0_; clear n0_; (try clear hb); (try clear hb2); (try clear hk); (try clear hi)) | ((with_reducible refine gate_callee (f := 11) rfl ?_); refine goesL_ (some 22) rfl rfl Try.func11 (by kernel_rfl) rfl #[.int .i64 8, .int .i64 (wrap64 (a0)), .int .i64 (wrap64 (a1))] rfl (by (try simp only [List.map_toArray, List.map_cons, List.map_nil]); first | done | rfl | (simp only [List.length_drop, List.length_take]; rfl)) ?_; (with_reducible refine (num_Op.calls 8 (wrap64 (a0)) (wrap64 (a1)) t212 _ A6.out).mono ?_); rintro e w25 ⟨rfl, hb⟩; refine ⟨_, rfl, ?_⟩; have n0_ := Aside0.mk (below_step (by repeat (first | (with_reducible first | exact HB.out | apply below_alloc | apply pw_below_drewN | apply below_drew1) | exact HB.out)) hb); clear HB; have HB := n0_; clear n0_; (try clear hb); (try clear hb2); (try clear hk); (try clear hi)) | ((with_reducible refine gate_callee (f := 12) rfl ?_); refine goesL_ (some 41) rfl rfl Try.func12 (by kernel_rfl) rfl #[.int .i64 (wrap64 ((wrap64 ((wrap64 (a1)) * t211)) + t212)), .int .i64 (wrap64 (a0))] rfl (by (try simp only [List.map_toArray, List.map_cons, List.map_nil]); first | done | rfl | (simp only [List.length_drop, List.length_take]; rfl)) ?_; (with_reducible refine (parolelaw01_congruent.calls (wrap64 ((wrap64 ((wrap64 (a1)) * t211)) + t212)) (wrap64 (a0)) true _ A19.out).mono ?_); rintro e w' ⟨rfl, ⟨nd, rfl⟩⟩; refine ⟨_, rfl, ?_⟩))
            go_ret
            exact ⟨by first | rfl | (simp [errW_none, errW_some] <;> rfl) | (simp [*, errW_none, errW_some] <;> rfl), by repeat (first | (with_reducible first | exact HB.out | apply below_alloc | apply pw_below_drewN | apply below_drew1) | exact HB.out)⟩
          · rw [if_neg c22] at H
            have c22b0 : decide ((wrap64 (a0)) < 0) = false := decide_eq_false c22
            clear c22
            by_cases c26 : t212 < 0
            · rw [if_pos c26] at H
              have c26b0 : decide (t212 < 0) = true := decide_eq_true c26
              clear c26
              by_cases c27 : (wrap64 (a0)) > 0
              · rw [if_pos c27] at H
                have c27b0 : decide (0 < (wrap64 (a0))) = true := decide_eq_true c27
                clear c27
                obtain rfl := Option.some.inj H
                go_enter Try.func4, Try.ntmps4
                go_wp2_with (first | ((with_reducible refine gate_callee (f := 10) rfl ?_); refine goesL_ (some 10) rfl rfl Try.func10 (by kernel_rfl) rfl #[] rfl (by (try simp only [List.map_toArray, List.map_cons, List.map_nil]); first | done | rfl | (simp only [List.length_drop, List.length_take]; rfl)) ?_; (with_reducible refine (parolelaw01_examples.calls k  true _ A3.out).mono ?_); rintro e w28 ⟨rfl, hb⟩; refine ⟨_, rfl, ?_⟩; have n0_ := Aside0.mk (below_step (by repeat (first | (with_reducible first | exact HB.out | apply below_alloc | apply pw_below_drewN | apply below_drew1) | exact HB.out)) hb); clear HB; have HB := n0_; clear n0_; (try clear hb); (try clear hb2); (try clear hk); (try clear hi)) | ((with_reducible refine gate_callee (f := 11) rfl ?_); refine goesL_ (some 19) rfl rfl Try.func11 (by kernel_rfl) rfl #[.int .i64 7, .int .i64 (wrap64 (a0)), .int .i64 (wrap64 (a1))] rfl (by (try simp only [List.map_toArray, List.map_cons, List.map_nil]); first | done | rfl | (simp only [List.length_drop, List.length_take]; rfl)) ?_; (with_reducible refine (num_Op.calls 7 (wrap64 (a0)) (wrap64 (a1)) t211 _ A5.out).mono ?_); rintro e w29 ⟨rfl, hb⟩; refine ⟨_, rfl, ?_⟩; have n0_ := Aside0.mk (below_step (by repeat (first | (with_reducible first | exact HB.out | apply below_alloc | apply pw_below_drewN | apply below_drew1) | exact HB.out)) hb); clear HB; have HB := n0_; clear n0_; (try clear hb); (try clear hb2); (try clear hk); (try clear hi)) | ((with_reducible refine gate_callee (f := 11) rfl ?_); refine goesL_ (some 22) rfl rfl Try.func11 (by kernel_rfl) rfl #[.int .i64 8, .int .i64 (wrap64 (a0)), .int .i64 (wrap64 (a1))] rfl (by (try simp only [List.map_toArray, List.map_cons, List.map_nil]); first | done | rfl | (simp only [List.length_drop, List.length_take]; rfl)) ?_; (with_reducible refine (num_Op.calls 8 (wrap64 (a0)) (wrap64 (a1)) t212 _ A6.out).mono ?_); rintro e w30 ⟨rfl, hb⟩; refine ⟨_, rfl, ?_⟩; have n0_ := Aside0.mk (below_step (by repeat (first | (with_reducible first | exact HB.out | apply below_alloc | apply pw_below_drewN | apply below_drew1) | exact HB.out)) hb); clear HB; have HB := n0_; clear n0_; (try clear hb); (try clear hb2); (try clear hk); (try clear hi)) | ((with_reducible refine gate_callee (f := 12) rfl ?_); refine goesL_ (some 41) rfl rfl Try.func12 (by kernel_rfl) rfl #[.int .i64 (wrap64 ((wrap64 ((wrap64 (a1)) * t211)) + t212)), .int .i64 (wrap64 (a0))] rfl (by (try simp only [List.map_toArray, List.map_cons, List.map_nil]); first | done | rfl | (simp only [List.length_drop, List.length_take]; rfl)) ?_; (with_reducible refine (parolelaw01_congruent.calls (wrap64 ((wrap64 ((wrap64 (a1)) * t211)) + t212)) (wrap64 (a0)) true _ A19.out).mono ?_); rintro e w' ⟨rfl, ⟨nd, rfl⟩⟩; refine ⟨_, rfl, ?_⟩))
                go_ret
                exact ⟨by first | rfl | (simp [errW_none, errW_some] <;> rfl) | (simp [*, errW_none, errW_some] <;> rfl), by repeat (first | (with_reducible first | exact HB.out | apply below_alloc | apply pw_below_drewN | apply below_drew1) | exact HB.out)⟩
              · rw [if_neg c27] at H
                have c27b0 : decide (0 < (wrap64 (a0))) = false := decide_eq_false c27
                clear c27
                obtain ⟨ji31, hji31⟩ : ∃ j_ : Int, (mx t212 (wrap64 (-t212))) = j_ := ⟨_, rfl⟩
                replace H : (if (ji31) < (mx (wrap64 (a1)) (wrap64 (-(wrap64 (a1))))) then (if (ji31) ≤ (mx (wrap64 (a0)) (wrap64 (-(wrap64 (a0))))) then (some true) else (some false)) else (some false)) = some r := by first | (rw [hji31] at H; exact H) | (simp only [hji31] at H ⊢; exact H)
                (try rw [hji31] at A3)
                (try rw [hji31] at A5)
                (try rw [hji31] at A6)
                (try rw [hji31] at A19)
                have hji31_ : (if t212 < (wrap64 (-t212)) then (wrap64 (-t212)) else t212) = ji31 := hji31
                obtain ⟨ji32, hji32⟩ : ∃ j_ : Int, (mx (wrap64 (a1)) (wrap64 (-(wrap64 (a1))))) = j_ := ⟨_, rfl⟩
                replace H : (if (ji31) < (ji32) then (if (ji31) ≤ (mx (wrap64 (a0)) (wrap64 (-(wrap64 (a0))))) then (some true) else (some false)) else (some false)) = some r := by first | (rw [hji32] at H; exact H) | (simp only [hji32] at H ⊢; exact H)
                (try rw [hji32] at A3)
                (try rw [hji32] at A5)
                (try rw [hji32] at A6)
                (try rw [hji32] at A19)
                have hji32_ : (if (wrap64 (a1)) < (wrap64 (-(wrap64 (a1)))) then (wrap64 (-(wrap64 (a1)))) else (wrap64 (a1))) = ji32 := hji32
                by_cases c33 : (ji31) < (ji32)
                · rw [if_pos c33] at H
                  have c33b0 : decide ((ji31) < (ji32)) = true := decide_eq_true c33
                  clear c33
                  obtain ⟨ji34, hji34⟩ : ∃ j_ : Int, (mx (wrap64 (a0)) (wrap64 (-(wrap64 (a0))))) = j_ := ⟨_, rfl⟩
                  replace H : (if (ji31) ≤ (ji34) then (some true) else (some false)) = some r := by first | (rw [hji34] at H; exact H) | (simp only [hji34] at H ⊢; exact H)
                  (try rw [hji34] at A3)
                  (try rw [hji34] at A5)
                  (try rw [hji34] at A6)
                  (try rw [hji34] at A19)
                  have hji34_ : (if (wrap64 (a0)) < (wrap64 (-(wrap64 (a0)))) then (wrap64 (-(wrap64 (a0)))) else (wrap64 (a0))) = ji34 := hji34
                  by_cases c35 : (ji31) ≤ (ji34)
                  · rw [if_pos c35] at H
                    have c35b0 : decide ((ji31) ≤ (ji34)) = true := decide_eq_true c35
                    clear c35
                    obtain rfl := Option.some.inj H
                    go_enter Try.func4, Try.ntmps4
                    go_wp2_with (first | ((with_reducible refine gate_callee (f := 10) rfl ?_); refine goesL_ (some 10) rfl rfl Try.func10 (by kernel_rfl) rfl #[] rfl (by (try simp only [List.map_toArray, List.map_cons, List.map_nil]); first | done | rfl | (simp only [List.length_drop, List.length_take]; rfl)) ?_; (with_reducible refine (parolelaw01_examples.calls k  true _ A3.out).mono ?_); rintro e w36 ⟨rfl, hb⟩; refine ⟨_, rfl, ?_⟩; have n0_ := Aside0.mk (below_step (by repeat (first | (with_reducible first | exact HB.out | apply below_alloc | apply pw_below_drewN | apply below_drew1) | exact HB.out)) hb); clear HB; have HB := n0_; clear n0_; (try clear hb); (try clear hb2); (try clear hk); (try clear hi)) | ((with_reducible refine gate_callee (f := 11) rfl ?_); refine goesL_ (some 19) rfl rfl Try.func11 (by kernel_rfl) rfl #[.int .i64 7, .int .i64 (wrap64 (a0)), .int .i64 (wrap64 (a1))] rfl (by (try simp only [List.map_toArray, List.map_cons, List.map_nil]); first | done | rfl | (simp only [List.length_drop, List.length_take]; rfl)) ?_; (with_reducible refine (num_Op.calls 7 (wrap64 (a0)) (wrap64 (a1)) t211 _ A5.out).mono ?_); rintro e w37 ⟨rfl, hb⟩; refine ⟨_, rfl, ?_⟩; have n0_ := Aside0.mk (below_step (by repeat (first | (with_reducible first | exact HB.out | apply below_alloc | apply pw_below_drewN | apply below_drew1) | exact HB.out)) hb); clear HB; have HB := n0_; clear n0_; (try clear hb); (try clear hb2); (try clear hk); (try clear hi)) | ((with_reducible refine gate_callee (f := 11) rfl ?_); refine goesL_ (some 22) rfl rfl Try.func11 (by kernel_rfl) rfl #[.int .i64 8, .int .i64 (wrap64 (a0)), .int .i64 (wrap64 (a1))] rfl (by (try simp only [List.map_toArray, List.map_cons, List.map_nil]); first | done | rfl | (simp only [List.length_drop, List.length_take]; rfl)) ?_; (with_reducible refine (num_Op.calls 8 (wrap64 (a0)) (wrap64 (a1)) t212 _ A6.out).mono ?_); rintro e w38 ⟨rfl, hb⟩; refine ⟨_, rfl, ?_⟩; have n0_ := Aside0.mk (below_step (by repeat (first | (with_reducible first | exact HB.out | apply below_alloc | apply pw_below_drewN | apply below_drew1) | exact HB.out)) hb); clear HB; have HB := n0_; clear n0_; (try clear hb); (try clear hb2); (try clear hk); (try clear hi)) | ((with_reducible refine gate_callee (f := 12) rfl ?_); refine goesL_ (some 41) rfl rfl Try.func12 (by kernel_rfl) rfl #[.int .i64 (wrap64 ((wrap64 ((wrap64 (a1)) * t211)) + t212)), .int .i64 (wrap64 (a0))] rfl (by (try simp only [List.map_toArray, List.map_cons, List.map_nil]); first | done | rfl | (simp only [List.length_drop, List.length_take]; rfl)) ?_; (with_reducible refine (parolelaw01_congruent.calls (wrap64 ((wrap64 ((wrap64 (a1)) * t211)) + t212)) (wrap64 (a0)) true _ A19.out).mono ?_); rintro e w' ⟨rfl, ⟨nd, rfl⟩⟩; refine ⟨_, rfl, ?_⟩))
                    go_ret
                    exact ⟨by first | rfl | (simp [errW_none, errW_some] <;> rfl) | (simp only [← hji31, ← hji32, ← hji34]; first | rfl | (simp [errW_none, errW_some] <;> rfl)) | (simp [*, errW_none, errW_some] <;> rfl), by repeat (first | (with_reducible first | exact HB.out | apply below_alloc | apply pw_below_drewN | apply below_drew1) | exact HB.out)⟩
                  · rw [if_neg c35] at H
                    have c35b0 : decide ((ji31) ≤ (ji34)) = false := decide_eq_false c35
                    clear c35
                    obtain rfl := Option.some.inj H
                    go_enter Try.func4, Try.ntmps4
                    go_wp2_with (first | ((with_reducible refine gate_callee (f := 10) rfl ?_); refine goesL_ (some 10) rfl rfl Try.func10 (by kernel_rfl) rfl #[] rfl (by (try simp only [List.map_toArray, List.map_cons, List.map_nil]); first | done | rfl | (simp only [List.length_drop, List.length_take]; rfl)) ?_; (with_reducible refine (parolelaw01_examples.calls k  true _ A3.out).mono ?_); rintro e w39 ⟨rfl, hb⟩; refine ⟨_, rfl, ?_⟩; have n0_ := Aside0.mk (below_step (by repeat (first | (with_reducible first | exact HB.out | apply below_alloc | apply pw_below_drewN | apply below_drew1) | exact HB.out)) hb); clear HB; have HB := n0_; clear n0_; (try clear hb); (try clear hb2); (try clear hk); (try clear hi)) | ((with_reducible refine gate_callee (f := 11) rfl ?_); refine goesL_ (some 19) rfl rfl Try.func11 (by kernel_rfl) rfl #[.int .i64 7, .int .i64 (wrap64 (a0)), .int .i64 (wrap64 (a1))] rfl (by (try simp only [List.map_toArray, List.map_cons, List.map_nil]); first | done | rfl | (simp only [List.length_drop, List.length_take]; rfl)) ?_; (with_reducible refine (num_Op.calls 7 (wrap64 (a0)) (wrap64 (a1)) t211 _ A5.out).mono ?_); rintro e w40 ⟨rfl, hb⟩; refine ⟨_, rfl, ?_⟩; have n0_ := Aside0.mk (below_step (by repeat (first | (with_reducible first | exact HB.out | apply below_alloc | apply pw_below_drewN | apply below_drew1) | exact HB.out)) hb); clear HB; have HB := n0_; clear n0_; (try clear hb); (try clear hb2); (try clear hk); (try clear hi)) | ((with_reducible refine gate_callee (f := 11) rfl ?_); refine goesL_ (some 22) rfl rfl Try.func11 (by kernel_rfl) rfl #[.int .i64 8, .int .i64 (wrap64 (a0)), .int .i64 (wrap64 (a1))] rfl (by (try simp only [List.map_toArray, List.map_cons, List.map_nil]); first | done | rfl | (simp only [List.length_drop, List.length_take]; rfl)) ?_; (with_reducible refine (num_Op.calls 8 (wrap64 (a0)) (wrap64 (a1)) t212 _ A6.out).mono ?_); rintro e w41 ⟨rfl, hb⟩; refine ⟨_, rfl, ?_⟩; have n0_ := Aside0.mk (below_step (by repeat (first | (with_reducible first | exact HB.out | apply below_alloc | apply pw_below_drewN | apply below_drew1) | exact HB.out)) hb); clear HB; have HB := n0_; clear n0_; (try clear hb); (try clear hb2); (try clear hk); (try clear hi)) | ((with_reducible refine gate_callee (f := 12) rfl ?_); refine goesL_ (some 41) rfl rfl Try.func12 (by kernel_rfl) rfl #[.int .i64 (wrap64 ((wrap64 ((wrap64 (a1)) * t211)) + t212)), .int .i64 (wrap64 (a0))] rfl (by (try simp only [List.map_toArray, List.map_cons, List.map_nil]); first | done | rfl | (simp only [List.length_drop, List.length_take]; rfl)) ?_; (with_reducible refine (parolelaw01_congruent.calls (wrap64 ((wrap64 ((wrap64 (a1)) * t211)) + t212)) (wrap64 (a0)) true _ A19.out).mono ?_); rintro e w' ⟨rfl, ⟨nd, rfl⟩⟩; refine ⟨_, rfl, ?_⟩))
                    go_ret
                    exact ⟨by first | rfl | (simp [errW_none, errW_some] <;> rfl) | (simp only [← hji31, ← hji32, ← hji34]; first | rfl | (simp [errW_none, errW_some] <;> rfl)) | (simp [*, errW_none, errW_some] <;> rfl), by repeat (first | (with_reducible first | exact HB.out | apply below_alloc | apply pw_below_drewN | apply below_drew1) | exact HB.out)⟩
                · rw [if_neg c33] at H
                  have c33b0 : decide ((ji31) < (ji32)) = false := decide_eq_false c33
                  clear c33
                  obtain rfl := Option.some.inj H
                  go_enter Try.func4, Try.ntmps4
                  go_wp2_with (first | ((with_reducible refine gate_callee (f := 10) rfl ?_); refine goesL_ (some 10) rfl rfl Try.func10 (by kernel_rfl) rfl #[] rfl (by (try simp only [List.map_toArray, List.map_cons, List.map_nil]); first | done | rfl | (simp only [List.length_drop, List.length_take]; rfl)) ?_; (with_reducible refine (parolelaw01_examples.calls k  true _ A3.out).mono ?_); rintro e w42 ⟨rfl, hb⟩; refine ⟨_, rfl, ?_⟩; have n0_ := Aside0.mk (below_step (by repeat (first | (with_reducible first | exact HB.out | apply below_alloc | apply pw_below_drewN | apply below_drew1) | exact HB.out)) hb); clear HB; have HB := n0_; clear n0_; (try clear hb); (try clear hb2); (try clear hk); (try clear hi)) | ((with_reducible refine gate_callee (f := 11) rfl ?_); refine goesL_ (some 19) rfl rfl Try.func11 (by kernel_rfl) rfl #[.int .i64 7, .int .i64 (wrap64 (a0)), .int .i64 (wrap64 (a1))] rfl (by (try simp only [List.map_toArray, List.map_cons, List.map_nil]); first | done | rfl | (simp only [List.length_drop, List.length_take]; rfl)) ?_; (with_reducible refine (num_Op.calls 7 (wrap64 (a0)) (wrap64 (a1)) t211 _ A5.out).mono ?_); rintro e w43 ⟨rfl, hb⟩; refine ⟨_, rfl, ?_⟩; have n0_ := Aside0.mk (below_step (by repeat (first | (with_reducible first | exact HB.out | apply below_alloc | apply pw_below_drewN | apply below_drew1) | exact HB.out)) hb); clear HB; have HB := n0_; clear n0_; (try clear hb); (try clear hb2); (try clear hk); (try clear hi)) | ((with_reducible refine gate_callee (f := 11) rfl ?_); refine goesL_ (some 22) rfl rfl Try.func11 (by kernel_rfl) rfl #[.int .i64 8, .int .i64 (wrap64 (a0)), .int .i64 (wrap64 (a1))] rfl (by (try simp only [List.map_toArray, List.map_cons, List.map_nil]); first | done | rfl | (simp only [List.length_drop, List.length_take]; rfl)) ?_; (with_reducible refine (num_Op.calls 8 (wrap64 (a0)) (wrap64 (a1)) t212 _ A6.out).mono ?_); rintro e w44 ⟨rfl, hb⟩; refine ⟨_, rfl, ?_⟩; have n0_ := Aside0.mk (below_step (by repeat (first | (with_reducible first | exact HB.out | apply below_alloc | apply pw_below_drewN | apply below_drew1) | exact HB.out)) hb); clear HB; have HB := n0_; clear n0_; (try clear hb); (try clear hb2); (try clear hk); (try clear hi)) | ((with_reducible refine gate_callee (f := 12) rfl ?_); refine goesL_ (some 41) rfl rfl Try.func12 (by kernel_rfl) rfl #[.int .i64 (wrap64 ((wrap64 ((wrap64 (a1)) * t211)) + t212)), .int .i64 (wrap64 (a0))] rfl (by (try simp only [List.map_toArray, List.map_cons, List.map_nil]); first | done | rfl | (simp only [List.length_drop, List.length_take]; rfl)) ?_; (with_reducible refine (parolelaw01_congruent.calls (wrap64 ((wrap64 ((wrap64 (a1)) * t211)) + t212)) (wrap64 (a0)) true _ A19.out).mono ?_); rintro e w' ⟨rfl, ⟨nd, rfl⟩⟩; refine ⟨_, rfl, ?_⟩))
                  go_ret
                  exact ⟨by first | rfl | (simp [errW_none, errW_some] <;> rfl) | (simp only [← hji31, ← hji32]; first | rfl | (simp [errW_none, errW_some] <;> rfl)) | (simp [*, errW_none, errW_some] <;> rfl), by repeat (first | (with_reducible first | exact HB.out | apply below_alloc | apply pw_below_drewN | apply below_drew1) | exact HB.out)⟩
            · rw [if_neg c26] at H
              have c26b0 : decide (t212 < 0) = false := decide_eq_false c26
              clear c26
              obtain ⟨ji45, hji45⟩ : ∃ j_ : Int, (mx t212 (wrap64 (-t212))) = j_ := ⟨_, rfl⟩
              replace H : (if (ji45) < (mx (wrap64 (a1)) (wrap64 (-(wrap64 (a1))))) then (if (ji45) ≤ (mx (wrap64 (a0)) (wrap64 (-(wrap64 (a0))))) then (some true) else (some false)) else (some false)) = some r := by first | (rw [hji45] at H; exact H) | (simp only [hji45] at H ⊢; exact H)
              (try rw [hji45] at A3)
              (try rw [hji45] at A5)
              (try rw [hji45] at A6)
              (try rw [hji45] at A19)
              have hji45_ : (if t212 < (wrap64 (-t212)) then (wrap64 (-t212)) else t212) = ji45 := hji45
              obtain ⟨ji46, hji46⟩ : ∃ j_ : Int, (mx (wrap64 (a1)) (wrap64 (-(wrap64 (a1))))) = j_ := ⟨_, rfl⟩
              replace H : (if (ji45) < (ji46) then (if (ji45) ≤ (mx (wrap64 (a0)) (wrap64 (-(wrap64 (a0))))) then (some true) else (some false)) else (some false)) = some r := by first | (rw [hji46] at H; exact H) | (simp only [hji46] at H ⊢; exact H)
              (try rw [hji46] at A3)
              (try rw [hji46] at A5)
              (try rw [hji46] at A6)
              (try rw [hji46] at A19)
              have hji46_ : (if (wrap64 (a1)) < (wrap64 (-(wrap64 (a1)))) then (wrap64 (-(wrap64 (a1)))) else (wrap64 (a1))) = ji46 := hji46
              by_cases c47 : (ji45) < (ji46)
              · rw [if_pos c47] at H
                have c47b0 : decide ((ji45) < (ji46)) = true := decide_eq_true c47
                clear c47
                obtain ⟨ji48, hji48⟩ : ∃ j_ : Int, (mx (wrap64 (a0)) (wrap64 (-(wrap64 (a0))))) = j_ := ⟨_, rfl⟩
                replace H : (if (ji45) ≤ (ji48) then (some true) else (some false)) = some r := by first | (rw [hji48] at H; exact H) | (simp only [hji48] at H ⊢; exact H)
                (try rw [hji48] at A3)
                (try rw [hji48] at A5)
                (try rw [hji48] at A6)
                (try rw [hji48] at A19)
                have hji48_ : (if (wrap64 (a0)) < (wrap64 (-(wrap64 (a0)))) then (wrap64 (-(wrap64 (a0)))) else (wrap64 (a0))) = ji48 := hji48
                by_cases c49 : (ji45) ≤ (ji48)
                · rw [if_pos c49] at H
                  have c49b0 : decide ((ji45) ≤ (ji48)) = true := decide_eq_true c49
                  clear c49
                  obtain rfl := Option.some.inj H
                  go_enter Try.func4, Try.ntmps4
                  go_wp2_with (first | ((with_reducible refine gate_callee (f := 10) rfl ?_); refine goesL_ (some 10) rfl rfl Try.func10 (by kernel_rfl) rfl #[] rfl (by (try simp only [List.map_toArray, List.map_cons, List.map_nil]); first | done | rfl | (simp only [List.length_drop, List.length_take]; rfl)) ?_; (with_reducible refine (parolelaw01_examples.calls k  true _ A3.out).mono ?_); rintro e w50 ⟨rfl, hb⟩; refine ⟨_, rfl, ?_⟩; have n0_ := Aside0.mk (below_step (by repeat (first | (with_reducible first | exact HB.out | apply below_alloc | apply pw_below_drewN | apply below_drew1) | exact HB.out)) hb); clear HB; have HB := n0_; clear n0_; (try clear hb); (try clear hb2); (try clear hk); (try clear hi)) | ((with_reducible refine gate_callee (f := 11) rfl ?_); refine goesL_ (some 19) rfl rfl Try.func11 (by kernel_rfl) rfl #[.int .i64 7, .int .i64 (wrap64 (a0)), .int .i64 (wrap64 (a1))] rfl (by (try simp only [List.map_toArray, List.map_cons, List.map_nil]); first | done | rfl | (simp only [List.length_drop, List.length_take]; rfl)) ?_; (with_reducible refine (num_Op.calls 7 (wrap64 (a0)) (wrap64 (a1)) t211 _ A5.out).mono ?_); rintro e w51 ⟨rfl, hb⟩; refine ⟨_, rfl, ?_⟩; have n0_ := Aside0.mk (below_step (by repeat (first | (with_reducible first | exact HB.out | apply below_alloc | apply pw_below_drewN | apply below_drew1) | exact HB.out)) hb); clear HB; have HB := n0_; clear n0_; (try clear hb); (try clear hb2); (try clear hk); (try clear hi)) | ((with_reducible refine gate_callee (f := 11) rfl ?_); refine goesL_ (some 22) rfl rfl Try.func11 (by kernel_rfl) rfl #[.int .i64 8, .int .i64 (wrap64 (a0)), .int .i64 (wrap64 (a1))] rfl (by (try simp only [List.map_toArray, List.map_cons, List.map_nil]); first | done | rfl | (simp only [List.length_drop, List.length_take]; rfl)) ?_; (with_reducible refine (num_Op.calls 8 (wrap64 (a0)) (wrap64 (a1)) t212 _ A6.out).mono ?_); rintro e w52 ⟨rfl, hb⟩; refine ⟨_, rfl, ?_⟩; have n0_ := Aside0.mk (below_step (by repeat (first | (with_reducible first | exact HB.out | apply below_alloc | apply pw_below_drewN | apply below_drew1) | exact HB.out)) hb); clear HB; have HB := n0_; clear n0_; (try clear hb); (try clear hb2); (try clear hk); (try clear hi)) | ((with_reducible refine gate_callee (f := 12) rfl ?_); refine goesL_ (some 41) rfl rfl Try.func12 (by kernel_rfl) rfl #[.int .i64 (wrap64 ((wrap64 ((wrap64 (a1)) * t211)) + t212)), .int .i64 (wrap64 (a0))] rfl (by (try simp only [List.map_toArray, List.map_cons, List.map_nil]); first | done | rfl | (simp only [List.length_drop, List.length_take]; rfl)) ?_; (with_reducible refine (parolelaw01_congruent.calls (wrap64 ((wrap64 ((wrap64 (a1)) * t211)) + t212)) (wrap64 (a0)) true _ A19.out).mono ?_); rintro e w' ⟨rfl, ⟨nd, rfl⟩⟩; refine ⟨_, rfl, ?_⟩))
                  go_ret
                  exact ⟨by first | rfl | (simp [errW_none, errW_some] <;> rfl) | (simp only [← hji45, ← hji46, ← hji48]; first | rfl | (simp [errW_none, errW_some] <;> rfl)) | (simp [*, errW_none, errW_some] <;> rfl), by repeat (first | (with_reducible first | exact HB.out | apply below_alloc | apply pw_below_drewN | apply below_drew1) | exact HB.out)⟩
                · rw [if_neg c49] at H
                  have c49b0 : decide ((ji45) ≤ (ji48)) = false := decide_eq_false c49
                  clear c49
                  obtain rfl := Option.some.inj H
                  go_enter Try.func4, Try.ntmps4
                  go_wp2_with (first | ((with_reducible refine gate_callee (f := 10) rfl ?_); refine goesL_ (some 10) rfl rfl Try.func10 (by kernel_rfl) rfl #[] rfl (by (try simp only [List.map_toArray, List.map_cons, List.map_nil]); first | done | rfl | (simp only [List.length_drop, List.length_take]; rfl)) ?_; (with_reducible refine (parolelaw01_examples.calls k  true _ A3.out).mono ?_); rintro e w53 ⟨rfl, hb⟩; refine ⟨_, rfl, ?_⟩; have n0_ := Aside0.mk (below_step (by repeat (first | (with_reducible first | exact HB.out | apply below_alloc | apply pw_below_drewN | apply below_drew1) | exact HB.out)) hb); clear HB; have HB := n0_; clear n0_; (try clear hb); (try clear hb2); (try clear hk); (try clear hi)) | ((with_reducible refine gate_callee (f := 11) rfl ?_); refine goesL_ (some 19) rfl rfl Try.func11 (by kernel_rfl) rfl #[.int .i64 7, .int .i64 (wrap64 (a0)), .int .i64 (wrap64 (a1))] rfl (by (try simp only [List.map_toArray, List.map_cons, List.map_nil]); first | done | rfl | (simp only [List.length_drop, List.length_take]; rfl)) ?_; (with_reducible refine (num_Op.calls 7 (wrap64 (a0)) (wrap64 (a1)) t211 _ A5.out).mono ?_); rintro e w54 ⟨rfl, hb⟩; refine ⟨_, rfl, ?_⟩; have n0_ := Aside0.mk (below_step (by repeat (first | (with_reducible first | exact HB.out | apply below_alloc | apply pw_below_drewN | apply below_drew1) | exact HB.out)) hb); clear HB; have HB := n0_; clear n0_; (try clear hb); (try clear hb2); (try clear hk); (try clear hi)) | ((with_reducible refine gate_callee (f := 11) rfl ?_); refine goesL_ (some 22) rfl rfl Try.func11 (by kernel_rfl) rfl #[.int .i64 8, .int .i64 (wrap64 (a0)), .int .i64 (wrap64 (a1))] rfl (by (try simp only [List.map_toArray, List.map_cons, List.map_nil]); first | done | rfl | (simp only [List.length_drop, List.length_take]; rfl)) ?_; (with_reducible refine (num_Op.calls 8 (wrap64 (a0)) (wrap64 (a1)) t212 _ A6.out).mono ?_); rintro e w55 ⟨rfl, hb⟩; refine ⟨_, rfl, ?_⟩; have n0_ := Aside0.mk (below_step (by repeat (first | (with_reducible first | exact HB.out | apply below_alloc | apply pw_below_drewN | apply below_drew1) | exact HB.out)) hb); clear HB; have HB := n0_; clear n0_; (try clear hb); (try clear hb2); (try clear hk); (try clear hi)) | ((with_reducible refine gate_callee (f := 12) rfl ?_); refine goesL_ (some 41) rfl rfl Try.func12 (by kernel_rfl) rfl #[.int .i64 (wrap64 ((wrap64 ((wrap64 (a1)) * t211)) + t212)), .int .i64 (wrap64 (a0))] rfl (by (try simp only [List.map_toArray, List.map_cons, List.map_nil]); first | done | rfl | (simp only [List.length_drop, List.length_take]; rfl)) ?_; (with_reducible refine (parolelaw01_congruent.calls (wrap64 ((wrap64 ((wrap64 (a1)) * t211)) + t212)) (wrap64 (a0)) true _ A19.out).mono ?_); rintro e w' ⟨rfl, ⟨nd, rfl⟩⟩; refine ⟨_, rfl, ?_⟩))
                  go_ret
                  exact ⟨by first | rfl | (simp [errW_none, errW_some] <;> rfl) | (simp only [← hji45, ← hji46, ← hji48]; first | rfl | (simp [errW_none, errW_some] <;> rfl)) | (simp [*, errW_none, errW_some] <;> rfl), by repeat (first | (with_reducible first | exact HB.out | apply below_alloc | apply pw_below_drewN | apply below_drew1) | exact HB.out)⟩
              · rw [if_neg c47] at H
                have c47b0 : decide ((ji45) < (ji46)) = false := decide_eq_false c47
                clear c47
                obtain rfl := Option.some.inj H
                go_enter Try.func4, Try.ntmps4
                go_wp2_with (first | ((with_reducible refine gate_callee (f := 10) rfl ?_); refine goesL_ (some 10) rfl rfl Try.func10 (by kernel_rfl) rfl #[] rfl (by (try simp only [List.map_toArray, List.map_cons, List.map_nil]); first | done | rfl | (simp only [List.length_drop, List.length_take]; rfl)) ?_; (with_reducible refine (parolelaw01_examples.calls k  true _ A3.out).mono ?_); rintro e w56 ⟨rfl, hb⟩; refine ⟨_, rfl, ?_⟩; have n0_ := Aside0.mk (below_step (by repeat (first | (with_reducible first | exact HB.out | apply below_alloc | apply pw_below_drewN | apply below_drew1) | exact HB.out)) hb); clear HB; have HB := n0_; clear n0_; (try clear hb); (try clear hb2); (try clear hk); (try clear hi)) | ((with_reducible refine gate_callee (f := 11) rfl ?_); refine goesL_ (some 19) rfl rfl Try.func11 (by kernel_rfl) rfl #[.int .i64 7, .int .i64 (wrap64 (a0)), .int .i64 (wrap64 (a1))] rfl (by (try simp only [List.map_toArray, List.map_cons, List.map_nil]); first | done | rfl | (simp only [List.length_drop, List.length_take]; rfl)) ?_; (with_reducible refine (num_Op.calls 7 (wrap64 (a0)) (wrap64 (a1)) t211 _ A5.out).mono ?_); rintro e w57 ⟨rfl, hb⟩; refine ⟨_, rfl, ?_⟩; have n0_ := Aside0.mk (below_step (by repeat (first | (with_reducible first | exact HB.out | apply below_alloc | apply pw_below_drewN | apply below_drew1) | exact HB.out)) hb); clear HB; have HB := n0_; clear n0_; (try clear hb); (try clear hb2); (try clear hk); (try clear hi)) | ((with_reducible refine gate_callee (f := 11) rfl ?_); refine goesL_ (some 22) rfl rfl Try.func11 (by kernel_rfl) rfl #[.int .i64 8, .int .i64 (wrap64 (a0)), .int .i64 (wrap64 (a1))] rfl (by (try simp only [List.map_toArray, List.map_cons, List.map_nil]); first | done | rfl | (simp only [List.length_drop, List.length_take]; rfl)) ?_; (with_reducible refine (num_Op.calls 8 (wrap64 (a0)) (wrap64 (a1)) t212 _ A6.out).mono ?_); rintro e w58 ⟨rfl, hb⟩; refine ⟨_, rfl, ?_⟩; have n0_ := Aside0.mk (below_step (by repeat (first | (with_reducible first | exact HB.out | apply below_alloc | apply pw_below_drewN | apply below_drew1) | exact HB.out)) hb); clear HB; have HB := n0_; clear n0_; (try clear hb); (try clear hb2); (try clear hk); (try clear hi)) | ((with_reducible refine gate_callee (f := 12) rfl ?_); refine goesL_ (some 41) rfl rfl Try.func12 (by kernel_rfl) rfl #[.int .i64 (wrap64 ((wrap64 ((wrap64 (a1)) * t211)) + t212)), .int .i64 (wrap64 (a0))] rfl (by (try simp only [List.map_toArray, List.map_cons, List.map_nil]); first | done | rfl | (simp only [List.length_drop, List.length_take]; rfl)) ?_; (with_reducible refine (parolelaw01_congruent.calls (wrap64 ((wrap64 ((wrap64 (a1)) * t211)) + t212)) (wrap64 (a0)) true _ A19.out).mono ?_); rintro e w' ⟨rfl, ⟨nd, rfl⟩⟩; refine ⟨_, rfl, ?_⟩))
                go_ret
                exact ⟨by first | rfl | (simp [errW_none, errW_some] <;> rfl) | (simp only [← hji45, ← hji46]; first | rfl | (simp [errW_none, errW_some] <;> rfl)) | (simp [*, errW_none, errW_some] <;> rfl), by repeat (first | (with_reducible first | exact HB.out | apply below_alloc | apply pw_below_drewN | apply below_drew1) | exact HB.out)⟩
        · rw [if_neg c21] at H
          have c21b0 : decide (0 < t212) = false := decide_eq_false c21
          clear c21
          by_cases c59 : t212 < 0
          · rw [if_pos c59] at H
            have c59b0 : decide (t212 < 0) = true := decide_eq_true c59
            clear c59
            by_cases c60 : (wrap64 (a0)) > 0
            · rw [if_pos c60] at H
              have c60b0 : decide (0 < (wrap64 (a0))) = true := decide_eq_true c60
              clear c60
              obtain rfl := Option.some.inj H
              go_enter Try.func4, Try.ntmps4
              go_wp2_with (first | ((with_reducible refine gate_callee (f := 10) rfl ?_); refine goesL_ (some 10) rfl rfl Try.func10 (by kernel_rfl) rfl #[] rfl (by (try simp only [List.map_toArray, List.map_cons, List.map_nil]); first | done | rfl | (simp only [List.length_drop, List.length_take]; rfl)) ?_; (with_reducible refine (parolelaw01_examples.calls k  true _ A3.out).mono ?_); rintro e w61 ⟨rfl, hb⟩; refine ⟨_, rfl, ?_⟩; have n0_ := Aside0.mk (below_step (by repeat (first | (with_reducible first | exact HB.out | apply below_alloc | apply pw_below_drewN | apply below_drew1) | exact HB.out)) hb); clear HB; have HB := n0_; clear n0_; (try clear hb); (try clear hb2); (try clear hk); (try clear hi)) | ((with_reducible refine gate_callee (f := 11) rfl ?_); refine goesL_ (some 19) rfl rfl Try.func11 (by kernel_rfl) rfl #[.int .i64 7, .int .i64 (wrap64 (a0)), .int .i64 (wrap64 (a1))] rfl (by (try simp only [List.map_toArray, List.map_cons, List.map_nil]); first | done | rfl | (simp only [List.length_drop, List.length_take]; rfl)) ?_; (with_reducible refine (num_Op.calls 7 (wrap64 (a0)) (wrap64 (a1)) t211 _ A5.out).mono ?_); rintro e w62 ⟨rfl, hb⟩; refine ⟨_, rfl, ?_⟩; have n0_ := Aside0.mk (below_step (by repeat (first | (with_reducible first | exact HB.out | apply below_alloc | apply pw_below_drewN | apply below_drew1) | exact HB.out)) hb); clear HB; have HB := n0_; clear n0_; (try clear hb); (try clear hb2); (try clear hk); (try clear hi)) | ((with_reducible refine gate_callee (f := 11) rfl ?_); refine goesL_ (some 22) rfl rfl Try.func11 (by kernel_rfl) rfl #[.int .i64 8, .int .i64 (wrap64 (a0)), .int .i64 (wrap64 (a1))] rfl (by (try simp only [List.map_toArray, List.map_cons, List.map_nil]); first | done | rfl | (simp only [List.length_drop, List.length_take]; rfl)) ?_; (with_reducible refine (num_Op.calls 8 (wrap64 (a0)) (wrap64 (a1)) t212 _ A6.out).mono ?_); rintro e w63 ⟨rfl, hb⟩; refine ⟨_, rfl, ?_⟩; have n0_ := Aside0.mk (below_step (by repeat (first | (with_reducible first | exact HB.out | apply below_alloc | apply pw_below_drewN | apply below_drew1) | exact HB.out)) hb); clear HB; have HB := n0_; clear n0_; (try clear hb); (try clear hb2); (try clear hk); (try clear hi)) | ((with_reducible refine gate_callee (f := 12) rfl ?_); refine goesL_ (some 41) rfl rfl Try.func12 (by kernel_rfl) rfl #[.int .i64 (wrap64 ((wrap64 ((wrap64 (a1)) * t211)) + t212)), .int .i64 (wrap64 (a0))] rfl (by (try simp only [List.map_toArray, List.map_cons, List.map_nil]); first | done | rfl | (simp only [List.length_drop, List.length_take]; rfl)) ?_; (with_reducible refine (parolelaw01_congruent.calls (wrap64 ((wrap64 ((wrap64 (a1)) * t211)) + t212)) (wrap64 (a0)) true _ A19.out).mono ?_); rintro e w' ⟨rfl, ⟨nd, rfl⟩⟩; refine ⟨_, rfl, ?_⟩))
              go_ret
              exact ⟨by first | rfl | (simp [errW_none, errW_some] <;> rfl) | (simp [*, errW_none, errW_some] <;> rfl), by repeat (first | (with_reducible first | exact HB.out | apply below_alloc | apply pw_below_drewN | apply below_drew1) | exact HB.out)⟩
            · rw [if_neg c60] at H
              have c60b0 : decide (0 < (wrap64 (a0))) = false := decide_eq_false c60
              clear c60
              obtain ⟨ji64, hji64⟩ : ∃ j_ : Int, (mx t212 (wrap64 (-t212))) = j_ := ⟨_, rfl⟩
              replace H : (if (ji64) < (mx (wrap64 (a1)) (wrap64 (-(wrap64 (a1))))) then (if (ji64) ≤ (mx (wrap64 (a0)) (wrap64 (-(wrap64 (a0))))) then (some true) else (some false)) else (some false)) = some r := by first | (rw [hji64] at H; exact H) | (simp only [hji64] at H ⊢; exact H)
              (try rw [hji64] at A3)
              (try rw [hji64] at A5)
              (try rw [hji64] at A6)
              (try rw [hji64] at A19)
              have hji64_ : (if t212 < (wrap64 (-t212)) then (wrap64 (-t212)) else t212) = ji64 := hji64
              obtain ⟨ji65, hji65⟩ : ∃ j_ : Int, (mx (wrap64 (a1)) (wrap64 (-(wrap64 (a1))))) = j_ := ⟨_, rfl⟩
              replace H : (if (ji64) < (ji65) then (if (ji64) ≤ (mx (wrap64 (a0)) (wrap64 (-(wrap64 (a0))))) then (some true) else (some false)) else (some false)) = some r := by first | (rw [hji65] at H; exact H) | (simp only [hji65] at H ⊢; exact H)
              (try rw [hji65] at A3)
              (try rw [hji65] at A5)
              (try rw [hji65] at A6)
              (try rw [hji65] at A19)
              have hji65_ : (if (wrap64 (a1)) < (wrap64 (-(wrap64 (a1)))) then (wrap64 (-(wrap64 (a1)))) else (wrap64 (a1))) = ji65 := hji65
              by_cases c66 : (ji64) < (ji65)
              · rw [if_pos c66] at H
                have c66b0 : decide ((ji64) < (ji65)) = true := decide_eq_true c66
                clear c66
                obtain ⟨ji67, hji67⟩ : ∃ j_ : Int, (mx (wrap64 (a0)) (wrap64 (-(wrap64 (a0))))) = j_ := ⟨_, rfl⟩
                replace H : (if (ji64) ≤ (ji67) then (some true) else (some false)) = some r := by first | (rw [hji67] at H; exact H) | (simp only [hji67] at H ⊢; exact H)
                (try rw [hji67] at A3)
                (try rw [hji67] at A5)
                (try rw [hji67] at A6)
                (try rw [hji67] at A19)
                have hji67_ : (if (wrap64 (a0)) < (wrap64 (-(wrap64 (a0)))) then (wrap64 (-(wrap64 (a0)))) else (wrap64 (a0))) = ji67 := hji67
                by_cases c68 : (ji64) ≤ (ji67)
                · rw [if_pos c68] at H
                  have c68b0 : decide ((ji64) ≤ (ji67)) = true := decide_eq_true c68
                  clear c68
                  obtain rfl := Option.some.inj H
                  go_enter Try.func4, Try.ntmps4
                  go_wp2_with (first | ((with_reducible refine gate_callee (f := 10) rfl ?_); refine goesL_ (some 10) rfl rfl Try.func10 (by kernel_rfl) rfl #[] rfl (by (try simp only [List.map_toArray, List.map_cons, List.map_nil]); first | done | rfl | (simp only [List.length_drop, List.length_take]; rfl)) ?_; (with_reducible refine (parolelaw01_examples.calls k  true _ A3.out).mono ?_); rintro e w69 ⟨rfl, hb⟩; refine ⟨_, rfl, ?_⟩; have n0_ := Aside0.mk (below_step (by repeat (first | (with_reducible first | exact HB.out | apply below_alloc | apply pw_below_drewN | apply below_drew1) | exact HB.out)) hb); clear HB; have HB := n0_; clear n0_; (try clear hb); (try clear hb2); (try clear hk); (try clear hi)) | ((with_reducible refine gate_callee (f := 11) rfl ?_); refine goesL_ (some 19) rfl rfl Try.func11 (by kernel_rfl) rfl #[.int .i64 7, .int .i64 (wrap64 (a0)), .int .i64 (wrap64 (a1))] rfl (by (try simp only [List.map_toArray, List.map_cons, List.map_nil]); first | done | rfl | (simp only [List.length_drop, List.length_take]; rfl)) ?_; (with_reducible refine (num_Op.calls 7 (wrap64 (a0)) (wrap64 (a1)) t211 _ A5.out).mono ?_); rintro e w70 ⟨rfl, hb⟩; refine ⟨_, rfl, ?_⟩; have n0_ := Aside0.mk (below_step (by repeat (first | (with_reducible first | exact HB.out | apply below_alloc | apply pw_below_drewN | apply below_drew1) | exact HB.out)) hb); clear HB; have HB := n0_; clear n0_; (try clear hb); (try clear hb2); (try clear hk); (try clear hi)) | ((with_reducible refine gate_callee (f := 11) rfl ?_); refine goesL_ (some 22) rfl rfl Try.func11 (by kernel_rfl) rfl #[.int .i64 8, .int .i64 (wrap64 (a0)), .int .i64 (wrap64 (a1))] rfl (by (try simp only [List.map_toArray, List.map_cons, List.map_nil]); first | done | rfl | (simp only [List.length_drop, List.length_take]; rfl)) ?_; (with_reducible refine (num_Op.calls 8 (wrap64 (a0)) (wrap64 (a1)) t212 _ A6.out).mono ?_); rintro e w71 ⟨rfl, hb⟩; refine ⟨_, rfl, ?_⟩; have n0_ := Aside0.mk (below_step (by repeat (first | (with_reducible first | exact HB.out | apply below_alloc | apply pw_below_drewN | apply below_drew1) | exact HB.out)) hb); clear HB; have HB := n0_; clear n0_; (try clear hb); (try clear hb2); (try clear hk); (try clear hi)) | ((with_reducible refine gate_callee (f := 12) rfl ?_); refine goesL_ (some 41) rfl rfl Try.func12 (by kernel_rfl) rfl #[.int .i64 (wrap64 ((wrap64 ((wrap64 (a1)) * t211)) + t212)), .int .i64 (wrap64 (a0))] rfl (by (try simp only [List.map_toArray, List.map_cons, List.map_nil]); first | done | rfl | (simp only [List.length_drop, List.length_take]; rfl)) ?_; (with_reducible refine (parolelaw01_congruent.calls (wrap64 ((wrap64 ((wrap64 (a1)) * t211)) + t212)) (wrap64 (a0)) true _ A19.out).mono ?_); rintro e w' ⟨rfl, ⟨nd, rfl⟩⟩; refine ⟨_, rfl, ?_⟩))
                  go_ret
                  exact ⟨by first | rfl | (simp [errW_none, errW_some] <;> rfl) | (simp only [← hji64, ← hji65, ← hji67]; first | rfl | (simp [errW_none, errW_some] <;> rfl)) | (simp [*, errW_none, errW_some] <;> rfl), by repeat (first | (with_reducible first | exact HB.out | apply below_alloc | apply pw_below_drewN | apply below_drew1) | exact HB.out)⟩
                · rw [if_neg c68] at H
                  have c68b0 : decide ((ji64) ≤ (ji67)) = false := decide_eq_false c68
                  clear c68
                  obtain rfl := Option.some.inj H
                  go_enter Try.func4, Try.ntmps4
                  go_wp2_with (first | ((with_reducible refine gate_callee (f := 10) rfl ?_); refine goesL_ (some 10) rfl rfl Try.func10 (by kernel_rfl) rfl #[] rfl (by (try simp only [List.map_toArray, List.map_cons, List.map_nil]); first | done | rfl | (simp only [List.length_drop, List.length_take]; rfl)) ?_; (with_reducible refine (parolelaw01_examples.calls k  true _ A3.out).mono ?_); rintro e w72 ⟨rfl, hb⟩; refine ⟨_, rfl, ?_⟩; have n0_ := Aside0.mk (below_step (by repeat (first | (with_reducible first | exact HB.out | apply below_alloc | apply pw_below_drewN | apply below_drew1) | exact HB.out)) hb); clear HB; have HB := n0_; clear n0_; (try clear hb); (try clear hb2); (try clear hk); (try clear hi)) | ((with_reducible refine gate_callee (f := 11) rfl ?_); refine goesL_ (some 19) rfl rfl Try.func11 (by kernel_rfl) rfl #[.int .i64 7, .int .i64 (wrap64 (a0)), .int .i64 (wrap64 (a1))] rfl (by (try simp only [List.map_toArray, List.map_cons, List.map_nil]); first | done | rfl | (simp only [List.length_drop, List.length_take]; rfl)) ?_; (with_reducible refine (num_Op.calls 7 (wrap64 (a0)) (wrap64 (a1)) t211 _ A5.out).mono ?_); rintro e w73 ⟨rfl, hb⟩; refine ⟨_, rfl, ?_⟩; have n0_ := Aside0.mk (below_step (by repeat (first | (with_reducible first | exact HB.out | apply below_alloc | apply pw_below_drewN | apply below_drew1) | exact HB.out)) hb); clear HB; have HB := n0_; clear n0_; (try clear hb); (try clear hb2); (try clear hk); (try clear hi)) | ((with_reducible refine gate_callee (f := 11) rfl ?_); refine goesL_ (some 22) rfl rfl Try.func11 (by kernel_rfl) rfl #[.int .i64 8, .int .i64 (wrap64 (a0)), .int .i64 (wrap64 (a1))] rfl (by (try simp only [List.map_toArray, List.map_cons, List.map_nil]); first | done | rfl | (simp only [List.length_drop, List.length_take]; rfl)) ?_; (with_reducible refine (num_Op.calls 8 (wrap64 (a0)) (wrap64 (a1)) t212 _ A6.out).mono ?_); rintro e w74 ⟨rfl, hb⟩; refine ⟨_, rfl, ?_⟩; have n0_ := Aside0.mk (below_step (by repeat (first | (with_reducible first | exact HB.out | apply below_alloc | apply pw_below_drewN | apply below_drew1) | exact HB.out)) hb); clear HB; have HB := n0_; clear n0_; (try clear hb); (try clear hb2); (try clear hk); (try clear hi)) | ((with_reducible refine gate_callee (f := 12) rfl ?_); refine goesL_ (some 41) rfl rfl Try.func12 (by kernel_rfl) rfl #[.int .i64 (wrap64 ((wrap64 ((wrap64 (a1)) * t211)) + t212)), .int .i64 (wrap64 (a0))] rfl (by (try simp only [List.map_toArray, List.map_cons, List.map_nil]); first | done | rfl | (simp only [List.length_drop, List.length_take]; rfl)) ?_; (with_reducible refine (parolelaw01_congruent.calls (wrap64 ((wrap64 ((wrap64 (a1)) * t211)) + t212)) (wrap64 (a0)) true _ A19.out).mono ?_); rintro e w' ⟨rfl, ⟨nd, rfl⟩⟩; refine ⟨_, rfl, ?_⟩))
                  go_ret
                  exact ⟨by first | rfl | (simp [errW_none, errW_some] <;> rfl) | (simp only [← hji64, ← hji65, ← hji67]; first | rfl | (simp [errW_none, errW_some] <;> rfl)) | (simp [*, errW_none, errW_some] <;> rfl), by repeat (first | (with_reducible first | exact HB.out | apply below_alloc | apply pw_below_drewN | apply below_drew1) | exact HB.out)⟩
              · rw [if_neg c66] at H
                have c66b0 : decide ((ji64) < (ji65)) = false := decide_eq_false c66
                clear c66
                obtain rfl := Option.some.inj H
                go_enter Try.func4, Try.ntmps4
                go_wp2_with (first | ((with_reducible refine gate_callee (f := 10) rfl ?_); refine goesL_ (some 10) rfl rfl Try.func10 (by kernel_rfl) rfl #[] rfl (by (try simp only [List.map_toArray, List.map_cons, List.map_nil]); first | done | rfl | (simp only [List.length_drop, List.length_take]; rfl)) ?_; (with_reducible refine (parolelaw01_examples.calls k  true _ A3.out).mono ?_); rintro e w75 ⟨rfl, hb⟩; refine ⟨_, rfl, ?_⟩; have n0_ := Aside0.mk (below_step (by repeat (first | (with_reducible first | exact HB.out | apply below_alloc | apply pw_below_drewN | apply below_drew1) | exact HB.out)) hb); clear HB; have HB := n0_; clear n0_; (try clear hb); (try clear hb2); (try clear hk); (try clear hi)) | ((with_reducible refine gate_callee (f := 11) rfl ?_); refine goesL_ (some 19) rfl rfl Try.func11 (by kernel_rfl) rfl #[.int .i64 7, .int .i64 (wrap64 (a0)), .int .i64 (wrap64 (a1))] rfl (by (try simp only [List.map_toArray, List.map_cons, List.map_nil]); first | done | rfl | (simp only [List.length_drop, List.length_take]; rfl)) ?_; (with_reducible refine (num_Op.calls 7 (wrap64 (a0)) (wrap64 (a1)) t211 _ A5.out).mono ?_); rintro e w76 ⟨rfl, hb⟩; refine ⟨_, rfl, ?_⟩; have n0_ := Aside0.mk (below_step (by repeat (first | (with_reducible first | exact HB.out | apply below_alloc | apply pw_below_drewN | apply below_drew1) | exact HB.out)) hb); clear HB; have HB := n0_; clear n0_; (try clear hb); (try clear hb2); (try clear hk); (try clear hi)) | ((with_reducible refine gate_callee (f := 11) rfl ?_); refine goesL_ (some 22) rfl rfl Try.func11 (by kernel_rfl) rfl #[.int .i64 8, .int .i64 (wrap64 (a0)), .int .i64 (wrap64 (a1))] rfl (by (try simp only [List.map_toArray, List.map_cons, List.map_nil]); first | done | rfl | (simp only [List.length_drop, List.length_take]; rfl)) ?_; (with_reducible refine (num_Op.calls 8 (wrap64 (a0)) (wrap64 (a1)) t212 _ A6.out).mono ?_); rintro e w77 ⟨rfl, hb⟩; refine ⟨_, rfl, ?_⟩; have n0_ := Aside0.mk (below_step (by repeat (first | (with_reducible first | exact HB.out | apply below_alloc | apply pw_below_drewN | apply below_drew1) | exact HB.out)) hb); clear HB; have HB := n0_; clear n0_; (try clear hb); (try clear hb2); (try clear hk); (try clear hi)) | ((with_reducible refine gate_callee (f := 12) rfl ?_); refine goesL_ (some 41) rfl rfl Try.func12 (by kernel_rfl) rfl #[.int .i64 (wrap64 ((wrap64 ((wrap64 (a1)) * t211)) + t212)), .int .i64 (wrap64 (a0))] rfl (by (try simp only [List.map_toArray, List.map_cons, List.map_nil]); first | done | rfl | (simp only [List.length_drop, List.length_take]; rfl)) ?_; (with_reducible refine (parolelaw01_congruent.calls (wrap64 ((wrap64 ((wrap64 (a1)) * t211)) + t212)) (wrap64 (a0)) true _ A19.out).mono ?_); rintro e w' ⟨rfl, ⟨nd, rfl⟩⟩; refine ⟨_, rfl, ?_⟩))
                go_ret
                exact ⟨by first | rfl | (simp [errW_none, errW_some] <;> rfl) | (simp only [← hji64, ← hji65]; first | rfl | (simp [errW_none, errW_some] <;> rfl)) | (simp [*, errW_none, errW_some] <;> rfl), by repeat (first | (with_reducible first | exact HB.out | apply below_alloc | apply pw_below_drewN | apply below_drew1) | exact HB.out)⟩
          · rw [if_neg c59] at H
            have c59b0 : decide (t212 < 0) = false := decide_eq_false c59
            clear c59
            obtain ⟨ji78, hji78⟩ : ∃ j_ : Int, (mx t212 (wrap64 (-t212))) = j_ := ⟨_, rfl⟩
            replace H : (if (ji78) < (mx (wrap64 (a1)) (wrap64 (-(wrap64 (a1))))) then (if (ji78) ≤ (mx (wrap64 (a0)) (wrap64 (-(wrap64 (a0))))) then (some true) else (some false)) else (some false)) = some r := by first | (rw [hji78] at H; exact H) | (simp only [hji78] at H ⊢; exact H)
            (try rw [hji78] at A3)
            (try rw [hji78] at A5)
            (try rw [hji78] at A6)
            (try rw [hji78] at A19)
            have hji78_ : (if t212 < (wrap64 (-t212)) then (wrap64 (-t212)) else t212) = ji78 := hji78
            obtain ⟨ji79, hji79⟩ : ∃ j_ : Int, (mx (wrap64 (a1)) (wrap64 (-(wrap64 (a1))))) = j_ := ⟨_, rfl⟩
            replace H : (if (ji78) < (ji79) then (if (ji78) ≤ (mx (wrap64 (a0)) (wrap64 (-(wrap64 (a0))))) then (some true) else (some false)) else (some false)) = some r := by first | (rw [hji79] at H; exact H) | (simp only [hji79] at H ⊢; exact H)
            (try rw [hji79] at A3)
            (try rw [hji79] at A5)
            (try rw [hji79] at A6)
            (try rw [hji79] at A19)
            have hji79_ : (if (wrap64 (a1)) < (wrap64 (-(wrap64 (a1)))) then (wrap64 (-(wrap64 (a1)))) else (wrap64 (a1))) = ji79 := hji79
            by_cases c80 : (ji78) < (ji79)
            · rw [if_pos c80] at H
              have c80b0 : decide ((ji78) < (ji79)) = true := decide_eq_true c80
              clear c80
              obtain ⟨ji81, hji81⟩ : ∃ j_ : Int, (mx (wrap64 (a0)) (wrap64 (-(wrap64 (a0))))) = j_ := ⟨_, rfl⟩
              replace H : (if (ji78) ≤ (ji81) then (some true) else (some false)) = some r := by first | (rw [hji81] at H; exact H) | (simp only [hji81] at H ⊢; exact H)
              (try rw [hji81] at A3)
              (try rw [hji81] at A5)
              (try rw [hji81] at A6)
              (try rw [hji81] at A19)
              have hji81_ : (if (wrap64 (a0)) < (wrap64 (-(wrap64 (a0)))) then (wrap64 (-(wrap64 (a0)))) else (wrap64 (a0))) = ji81 := hji81
              by_cases c82 : (ji78) ≤ (ji81)
              · rw [if_pos c82] at H
                have c82b0 : decide ((ji78) ≤ (ji81)) = true := decide_eq_true c82
                clear c82
                obtain rfl := Option.some.inj H
                go_enter Try.func4, Try.ntmps4
                go_wp2_with (first | ((with_reducible refine gate_callee (f := 10) rfl ?_); refine goesL_ (some 10) rfl rfl Try.func10 (by kernel_rfl) rfl #[] rfl (by (try simp only [List.map_toArray, List.map_cons, List.map_nil]); first | done | rfl | (simp only [List.length_drop, List.length_take]; rfl)) ?_; (with_reducible refine (parolelaw01_examples.calls k  true _ A3.out).mono ?_); rintro e w83 ⟨rfl, hb⟩; refine ⟨_, rfl, ?_⟩; have n0_ := Aside0.mk (below_step (by repeat (first | (with_reducible first | exact HB.out | apply below_alloc | apply pw_below_drewN | apply below_drew1) | exact HB.out)) hb); clear HB; have HB := n0_; clear n0_; (try clear hb); (try clear hb2); (try clear hk); (try clear hi)) | ((with_reducible refine gate_callee (f := 11) rfl ?_); refine goesL_ (some 19) rfl rfl Try.func11 (by kernel_rfl) rfl #[.int .i64 7, .int .i64 (wrap64 (a0)), .int .i64 (wrap64 (a1))] rfl (by (try simp only [List.map_toArray, List.map_cons, List.map_nil]); first | done | rfl | (simp only [List.length_drop, List.length_take]; rfl)) ?_; (with_reducible refine (num_Op.calls 7 (wrap64 (a0)) (wrap64 (a1)) t211 _ A5.out).mono ?_); rintro e w84 ⟨rfl, hb⟩; refine ⟨_, rfl, ?_⟩; have n0_ := Aside0.mk (below_step (by repeat (first | (with_reducible first | exact HB.out | apply below_alloc | apply pw_below_drewN | apply below_drew1) | exact HB.out)) hb); clear HB; have HB := n0_; clear n0_; (try clear hb); (try clear hb2); (try clear hk); (try clear hi)) | ((with_reducible refine gate_callee (f := 11) rfl ?_); refine goesL_ (some 22) rfl rfl Try.func11 (by kernel_rfl) rfl #[.int .i64 8, .int .i64 (wrap64 (a0)), .int .i64 (wrap64 (a1))] rfl (by (try simp only [List.map_toArray, List.map_cons, List.map_nil]); first | done | rfl | (simp only [List.length_drop, List.length_take]; rfl)) ?_; (with_reducible refine (num_Op.calls 8 (wrap64 (a0)) (wrap64 (a1)) t212 _ A6.out).mono ?_); rintro e w85 ⟨rfl, hb⟩; refine ⟨_, rfl, ?_⟩; have n0_ := Aside0.mk (below_step (by repeat (first | (with_reducible first | exact HB.out | apply below_alloc | apply pw_below_drewN | apply below_drew1) | exact HB.out)) hb); clear HB; have HB := n0_; clear n0_; (try clear hb); (try clear hb2); (try clear hk); (try clear hi)) | ((with_reducible refine gate_callee (f := 12) rfl ?_); refine goesL_ (some 41) rfl rfl Try.func12 (by kernel_rfl) rfl #[.int .i64 (wrap64 ((wrap64 ((wrap64 (a1)) * t211)) + t212)), .int .i64 (wrap64 (a0))] rfl (by (try simp only [List.map_toArray, List.map_cons, List.map_nil]); first | done | rfl | (simp only [List.length_drop, List.length_take]; rfl)) ?_; (with_reducible refine (parolelaw01_congruent.calls (wrap64 ((wrap64 ((wrap64 (a1)) * t211)) + t212)) (wrap64 (a0)) true _ A19.out).mono ?_); rintro e w' ⟨rfl, ⟨nd, rfl⟩⟩; refine ⟨_, rfl, ?_⟩))
                go_ret
                exact ⟨by first | rfl | (simp [errW_none, errW_some] <;> rfl) | (simp only [← hji78, ← hji79, ← hji81]; first | rfl | (simp [errW_none, errW_some] <;> rfl)) | (simp [*, errW_none, errW_some] <;> rfl), by repeat (first | (with_reducible first | exact HB.out | apply below_alloc | apply pw_below_drewN | apply below_drew1) | exact HB.out)⟩
              · rw [if_neg c82] at H
                have c82b0 : decide ((ji78) ≤ (ji81)) = false := decide_eq_false c82
                clear c82
                obtain rfl := Option.some.inj H
                go_enter Try.func4, Try.ntmps4
                go_wp2_with (first | ((with_reducible refine gate_callee (f := 10) rfl ?_); refine goesL_ (some 10) rfl rfl Try.func10 (by kernel_rfl) rfl #[] rfl (by (try simp only [List.map_toArray, List.map_cons, List.map_nil]); first | done | rfl | (simp only [List.length_drop, List.length_take]; rfl)) ?_; (with_reducible refine (parolelaw01_examples.calls k  true _ A3.out).mono ?_); rintro e w86 ⟨rfl, hb⟩; refine ⟨_, rfl, ?_⟩; have n0_ := Aside0.mk (below_step (by repeat (first | (with_reducible first | exact HB.out | apply below_alloc | apply pw_below_drewN | apply below_drew1) | exact HB.out)) hb); clear HB; have HB := n0_; clear n0_; (try clear hb); (try clear hb2); (try clear hk); (try clear hi)) | ((with_reducible refine gate_callee (f := 11) rfl ?_); refine goesL_ (some 19) rfl rfl Try.func11 (by kernel_rfl) rfl #[.int .i64 7, .int .i64 (wrap64 (a0)), .int .i64 (wrap64 (a1))] rfl (by (try simp only [List.map_toArray, List.map_cons, List.map_nil]); first | done | rfl | (simp only [List.length_drop, List.length_take]; rfl)) ?_; (with_reducible refine (num_Op.calls 7 (wrap64 (a0)) (wrap64 (a1)) t211 _ A5.out).mono ?_); rintro e w87 ⟨rfl, hb⟩; refine ⟨_, rfl, ?_⟩; have n0_ := Aside0.mk (below_step (by repeat (first | (with_reducible first | exact HB.out | apply below_alloc | apply pw_below_drewN | apply below_drew1) | exact HB.out)) hb); clear HB; have HB := n0_; clear n0_; (try clear hb); (try clear hb2); (try clear hk); (try clear hi)) | ((with_reducible refine gate_callee (f := 11) rfl ?_); refine goesL_ (some 22) rfl rfl Try.func11 (by kernel_rfl) rfl #[.int .i64 8, .int .i64 (wrap64 (a0)), .int .i64 (wrap64 (a1))] rfl (by (try simp only [List.map_toArray, List.map_cons, List.map_nil]); first | done | rfl | (simp only [List.length_drop, List.length_take]; rfl)) ?_; (with_reducible refine (num_Op.calls 8 (wrap64 (a0)) (wrap64 (a1)) t212 _ A6.out).mono ?_); rintro e w88 ⟨rfl, hb⟩; refine ⟨_, rfl, ?_⟩; have n0_ := Aside0.mk (below_step (by repeat (first | (with_reducible first | exact HB.out | apply below_alloc | apply pw_below_drewN | apply below_drew1) | exact HB.out)) hb); clear HB; have HB := n0_; clear n0_; (try clear hb); (try clear hb2); (try clear hk); (try clear hi)) | ((with_reducible refine gate_callee (f := 12) rfl ?_); refine goesL_ (some 41) rfl rfl Try.func12 (by kernel_rfl) rfl #[.int .i64 (wrap64 ((wrap64 ((wrap64 (a1)) * t211)) + t212)), .int .i64 (wrap64 (a0))] rfl (by (try simp only [List.map_toArray, List.map_cons, List.map_nil]); first | done | rfl | (simp only [List.length_drop, List.length_take]; rfl)) ?_; (with_reducible refine (parolelaw01_congruent.calls (wrap64 ((wrap64 ((wrap64 (a1)) * t211)) + t212)) (wrap64 (a0)) true _ A19.out).mono ?_); rintro e w' ⟨rfl, ⟨nd, rfl⟩⟩; refine ⟨_, rfl, ?_⟩))
                go_ret
                exact ⟨by first | rfl | (simp [errW_none, errW_some] <;> rfl) | (simp only [← hji78, ← hji79, ← hji81]; first | rfl | (simp [errW_none, errW_some] <;> rfl)) | (simp [*, errW_none, errW_some] <;> rfl), by repeat (first | (with_reducible first | exact HB.out | apply below_alloc | apply pw_below_drewN | apply below_drew1) | exact HB.out)⟩
            · rw [if_neg c80] at H
              have c80b0 : decide ((ji78) < (ji79)) = false := decide_eq_false c80
              clear c80
              obtain rfl := Option.some.inj H
              go_enter Try.func4, Try.ntmps4
              go_wp2_with (first | ((with_reducible refine gate_callee (f := 10) rfl ?_); refine goesL_ (some 10) rfl rfl Try.func10 (by kernel_rfl) rfl #[] rfl (by (try simp only [List.map_toArray, List.map_cons, List.map_nil]); first | done | rfl | (simp only [List.length_drop, List.length_take]; rfl)) ?_; (with_reducible refine (parolelaw01_examples.calls k  true _ A3.out).mono ?_); rintro e w89 ⟨rfl, hb⟩; refine ⟨_, rfl, ?_⟩; have n0_ := Aside0.mk (below_step (by repeat (first | (with_reducible first | exact HB.out | apply below_alloc | apply pw_below_drewN | apply below_drew1) | exact HB.out)) hb); clear HB; have HB := n0_; clear n0_; (try clear hb); (try clear hb2); (try clear hk); (try clear hi)) | ((with_reducible refine gate_callee (f := 11) rfl ?_); refine goesL_ (some 19) rfl rfl Try.func11 (by kernel_rfl) rfl #[.int .i64 7, .int .i64 (wrap64 (a0)), .int .i64 (wrap64 (a1))] rfl (by (try simp only [List.map_toArray, List.map_cons, List.map_nil]); first | done | rfl | (simp only [List.length_drop, List.length_take]; rfl)) ?_; (with_reducible refine (num_Op.calls 7 (wrap64 (a0)) (wrap64 (a1)) t211 _ A5.out).mono ?_); rintro e w90 ⟨rfl, hb⟩; refine ⟨_, rfl, ?_⟩; have n0_ := Aside0.mk (below_step (by repeat (first | (with_reducible first | exact HB.out | apply below_alloc | apply pw_below_drewN | apply below_drew1) | exact HB.out)) hb); clear HB; have HB := n0_; clear n0_; (try clear hb); (try clear hb2); (try clear hk); (try clear hi)) | ((with_reducible refine gate_callee (f := 11) rfl ?_); refine goesL_ (some 22) rfl rfl Try.func11 (by kernel_rfl) rfl #[.int .i64 8, .int .i64 (wrap64 (a0)), .int .i64 (wrap64 (a1))] rfl (by (try simp only [List.map_toArray, List.map_cons, List.map_nil]); first | done | rfl | (simp only [List.length_drop, List.length_take]; rfl)) ?_; (with_reducible refine (num_Op.calls 8 (wrap64 (a0)) (wrap64 (a1)) t212 _ A6.out).mono ?_); rintro e w91 ⟨rfl, hb⟩; refine ⟨_, rfl, ?_⟩; have n0_ := Aside0.mk (below_step (by repeat (first | (with_reducible first | exact HB.out | apply below_alloc | apply pw_below_drewN | apply below_drew1) | exact HB.out)) hb); clear HB; have HB := n0_; clear n0_; (try clear hb); (try clear hb2); (try clear hk); (try clear hi)) | ((with_reducible refine gate_callee (f := 12) rfl ?_); refine goesL_ (some 41) rfl rfl Try.func12 (by kernel_rfl) rfl #[.int .i64 (wrap64 ((wrap64 ((wrap64 (a1)) * t211)) + t212)), .int .i64 (wrap64 (a0))] rfl (by (try simp only [List.map_toArray, List.map_cons, List.map_nil]); first | done | rfl | (simp only [List.length_drop, List.length_take]; rfl)) ?_; (with_reducible refine (parolelaw01_congruent.calls (wrap64 ((wrap64 ((wrap64 (a1)) * t211)) + t212)) (wrap64 (a0)) true _ A19.out).mono ?_); rintro e w' ⟨rfl, ⟨nd, rfl⟩⟩; refine ⟨_, rfl, ?_⟩))
              go_ret
              exact ⟨by first | rfl | (simp [errW_none, errW_some] <;> rfl) | (simp only [← hji78, ← hji79]; first | rfl | (simp [errW_none, errW_some] <;> rfl)) | (simp [*, errW_none, errW_some] <;> rfl), by repeat (first | (with_reducible first | exact HB.out | apply below_alloc | apply pw_below_drewN | apply below_drew1) | exact HB.out)⟩
      · replace c20 := Bool.eq_false_iff.mpr c20
        subst c20
        have H1 : (some false) = some r := by rw [if_neg (show ¬ (false = true) by decide)] at H; exact H
        clear H
        have H := H1
        clear H1
        obtain rfl := Option.some.inj H
        go_enter Try.func4, Try.ntmps4
        go_wp2_with (first | ((with_reducible refine gate_callee (f := 10) rfl ?_); refine goesL_ (some 10) rfl rfl Try.func10 (by kernel_rfl) rfl #[] rfl (by (try simp only [List.map_toArray, List.map_cons, List.map_nil]); first | done | rfl | (simp only [List.length_drop, List.length_take]; rfl)) ?_; (with_reducible refine (parolelaw01_examples.calls k  true _ A3.out).mono ?_); rintro e w92 ⟨rfl, hb⟩; refine ⟨_, rfl, ?_⟩; have n0_ := Aside0.mk (below_step (by repeat (first | (with_reducible first | exact HB.out | apply below_alloc | apply pw_below_drewN | apply below_drew1) | exact HB.out)) hb); clear HB; have HB := n0_; clear n0_; (try clear hb); (try clear hb2); (try clear hk); (try clear hi)) | ((with_reducible refine gate_callee (f := 11) rfl ?_); refine goesL_ (some 19) rfl rfl Try.func11 (by kernel_rfl) rfl #[.int .i64 7, .int .i64 (wrap64 (a0)), .int .i64 (wrap64 (a1))] rfl (by (try simp only [List.map_toArray, List.map_cons, List.map_nil]); first | done | rfl | (simp only [List.length_drop, List.length_take]; rfl)) ?_; (with_reducible refine (num_Op.calls 7 (wrap64 (a0)) (wrap64 (a1)) t211 _ A5.out).mono ?_); rintro e w93 ⟨rfl, hb⟩; refine ⟨_, rfl, ?_⟩; have n0_ := Aside0.mk (below_step (by repeat (first | (with_reducible first | exact HB.out | apply below_alloc | apply pw_below_drewN | apply below_drew1) | exact HB.out)) hb); clear HB; have HB := n0_; clear n0_; (try clear hb); (try clear hb2); (try clear hk); (try clear hi)) | ((with_reducible refine gate_callee (f := 11) rfl ?_); refine goesL_ (some 22) rfl rfl Try.func11 (by kernel_rfl) rfl #[.int .i64 8, .int .i64 (wrap64 (a0)), .int .i64 (wrap64 (a1))] rfl (by (try simp only [List.map_toArray, List.map_cons, List.map_nil]); first | done | rfl | (simp only [List.length_drop, List.length_take]; rfl)) ?_; (with_reducible refine (num_Op.calls 8 (wrap64 (a0)) (wrap64 (a1)) t212 _ A6.out).mono ?_); rintro e w94 ⟨rfl, hb⟩; refine ⟨_, rfl, ?_⟩; have n0_ := Aside0.mk (below_step (by repeat (first | (with_reducible first | exact HB.out | apply below_alloc | apply pw_below_drewN | apply below_drew1) | exact HB.out)) hb); clear HB; have HB := n0_; clear n0_; (try clear hb); (try clear hb2); (try clear hk); (try clear hi)) | ((with_reducible refine gate_callee (f := 12) rfl ?_); refine goesL_ (some 41) rfl rfl Try.func12 (by kernel_rfl) rfl #[.int .i64 (wrap64 ((wrap64 ((wrap64 (a1)) * t211)) + t212)), .int .i64 (wrap64 (a0))] rfl (by (try simp only [List.map_toArray, List.map_cons, List.map_nil]); first | done | rfl | (simp only [List.length_drop, List.length_take]; rfl)) ?_; (with_reducible refine (parolelaw01_congruent.calls (wrap64 ((wrap64 ((wrap64 (a1)) * t211)) + t212)) (wrap64 (a0)) false _ A19.out).mono ?_); rintro e w' ⟨rfl, ⟨nd, rfl⟩⟩; refine ⟨_, rfl, ?_⟩))
        go_ret
        exact ⟨by first | rfl | (simp [errW_none, errW_some] <;> rfl) | (simp [*, errW_none, errW_some] <;> rfl), by repeat (first | (with_reducible first | exact HB.out | apply below_alloc | apply pw_below_drewN | apply below_drew1) | exact HB.out)⟩
  · replace c4 := Bool.eq_false_iff.mpr c4
    subst c4
    have H1 : (some false) = some r := by rw [if_neg (show ¬ (false = true) by decide)] at H; exact H
    clear H
    have H := H1
    clear H1
    obtain rfl := Option.some.inj H
    go_enter Try.func4, Try.ntmps4
    go_wp2_with (first | ((with_reducible refine gate_callee (f := 10) rfl ?_); refine goesL_ (some 10) rfl rfl Try.func10 (by kernel_rfl) rfl #[] rfl (by (try simp only [List.map_toArray, List.map_cons, List.map_nil]); first | done | rfl | (simp only [List.length_drop, List.length_take]; rfl)) ?_; (with_reducible refine (parolelaw01_examples.calls k  false _ A3.out).mono ?_); rintro e w95 ⟨rfl, hb⟩; refine ⟨_, rfl, ?_⟩; have n0_ := Aside0.mk (below_step (by repeat (first | (with_reducible first | exact HB.out | apply below_alloc | apply pw_below_drewN | apply below_drew1) | exact HB.out)) hb); clear HB; have HB := n0_; clear n0_; (try clear hb); (try clear hb2); (try clear hk); (try clear hi)))
    go_ret
    exact ⟨by first | rfl | (simp [errW_none, errW_some] <;> rfl) | (simp [*, errW_none, errW_some] <;> rfl), by repeat (first | (with_reducible first | exact HB.out | apply below_alloc | apply pw_below_drewN | apply below_drew1) | exact HB.out)⟩

/-- THE ONE PURE STATEMENT of parolelaw01_NumDivides: yours. -/
def parolelaw01_NumDivides.Pure : Prop := ∀ (a0 : Int) (a1 : Int), (Lit.int .i32 a0).wf = true → (Lit.int .i32 a1).wf = true → ∃ k, parolelaw01_NumDivides.f k a0 a1 = some true
theorem parolelaw01_NumDivides.walk (P : parolelaw01_NumDivides.Pure) (a0 : Int) (a1 : Int) (w : World) (w0 : (Lit.int .i32 a0).wf = true) (w1 : (Lit.int .i32 a1).wf = true) :
    Calls Try.prog 4 #[.int .i32 a0, .int .i32 a1] w fun e w' => e = .returned (.bool true) ∧ Below w.heap.size w w' := by
  obtain ⟨k, h⟩ := P a0 a1 w0 w1
  refine (parolelaw01_NumDivides.calls k a0 a1 true w h).mono ?_
  rintro e w' ⟨rfl, hd⟩
  exact ⟨rfl, hd⟩

end Go.Proofs.Ytbbnefpjnjjibaa.XA
