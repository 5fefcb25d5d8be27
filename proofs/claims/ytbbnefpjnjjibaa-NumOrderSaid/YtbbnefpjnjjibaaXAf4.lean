-- Written by xprint.py, a program of mine that runs over the print of the translation. Lean checks it.
import Derived.Test.YtbbnefpjnjjibaaXAf0
import Derived.Test.YtbbnefpjnjjibaaXAf1
import Derived.Test.YtbbnefpjnjjibaaXAf2
namespace Go.Proofs.Ytbbnefpjnjjibaa.XA
open Go.RowKit Go.Proofs.YtbbnefpjnjjibaaW.PrintWords Go.Proofs.YtbbnefpjnjjibaaW.PrintLast Go.Proofs.YtbbnefpjnjjibaaW.PrintMore
attribute [local go_sem] max2_int min2_int max_two min_two max_three min_three max_four min_four   -- for this text's walks alone
attribute [local irreducible] Go.Calls
set_option linter.unusedVariables false
set_option linter.unusedSimpArgs false

/-! ### parolelaw01_NumOrder: function 5 -/
mutual
def parolelaw01_NumOrder.j0 : Nat → Bool → Int → Int → Int → Int → Int → Bool → Option (Bool)
  | 0, _, _, _, _, _, _, _ => none
  | k + 1, x7, x8, x9, x10, x11, x12, x50 => if x50 = true then (some false) else ((num_Op.f 9 x11 x10).bind fun t217 => ((num_Op.f 9 x9 x10).bind fun t218 => ((num_Op.f 9 x8 t218).bind fun t219 => (if t217 = t219 then ((num_Op.f 10 x8 x11).bind fun t220 => (if t220 = x8 then ((num_Op.f 9 x8 x12).bind fun t221 => (if t221 = x8 then ((num_Op.f 9 x9 x8).bind fun t222 => (parolelaw01_NumOrder.j1 k x7 x8 x9 x11 x12 (x11 != t222))) else (parolelaw01_NumOrder.j1 k x7 x8 x9 x11 x12 true))) else (parolelaw01_NumOrder.j1 k x7 x8 x9 x11 x12 true))) else (parolelaw01_NumOrder.j1 k x7 x8 x9 x11 x12 true)))))
def parolelaw01_NumOrder.j1 : Nat → Bool → Int → Int → Int → Int → Bool → Option (Bool)
  | 0, _, _, _, _, _, _ => none
  | k + 1, x7, x8, x9, x11, x12, x80 => if x80 = true then (some false) else ((paroleref01_Num.f x8).bind fun bt223 => ((paroleref01_Num.f x9).bind fun bt229 => ((some (([(⟨bt223.1, bt223.2.1, bt223.2.2.1, bt223.2.2.2⟩ : S29), (⟨bt229.1, bt229.2.1, bt229.2.2.1, bt229.2.2.2⟩ : S29)] : List (S29)) : List (S29))).bind fun y235 => ((num_Holds.f k 3 y235 ([] : List (S34)) ([] : List Int) ([] : List Int)).bind fun t238 => (if (t238 == (x11 == x8)) = true then ((num_Holds.f k 2 y235 ([] : List (S34)) ([] : List Int) ([] : List Int)).bind fun t239 => (if (t239 == (x12 != x8)) = true then ((num_Holds.f k 4 y235 ([] : List (S34)) ([] : List Int) ([] : List Int)).bind fun t240 => (if (t240 == (x11 == x12)) = true then (some x7) else (some false))) else (some false))) else (some false))))))
end
def parolelaw01_NumOrder.f (k : Nat) (a0 : Int) (a1 : Int) (a2 : Int) : Option (Bool) := (parolelaw01_examples.f k).bind fun t214 => (if t214 = true then ((num_Op.f 9 (wrap64 (a0)) (wrap64 (a1))).bind fun t215 => ((num_Op.f 10 (wrap64 (a0)) (wrap64 (a1))).bind fun t216 => (if t215 > t216 then (parolelaw01_NumOrder.j0 k t214 (wrap64 (a0)) (wrap64 (a1)) (wrap64 (a2)) t215 t216 true) else (if (wrap64 (t215 + t216)) = (wrap64 ((wrap64 (a0)) + (wrap64 (a1)))) then (if t215 = (wrap64 (a0)) then (parolelaw01_NumOrder.j0 k t214 (wrap64 (a0)) (wrap64 (a1)) (wrap64 (a2)) t215 t216 false) else (parolelaw01_NumOrder.j0 k t214 (wrap64 (a0)) (wrap64 (a1)) (wrap64 (a2)) t215 t216 (t215 != (wrap64 (a1))))) else (parolelaw01_NumOrder.j0 k t214 (wrap64 (a0)) (wrap64 (a1)) (wrap64 (a2)) t215 t216 true))))) else (some false))
theorem parolelaw01_NumOrder.mono_l : ∀ k, (∀ y0 y1 y2 y3 y4 y5 y6, LeO (parolelaw01_NumOrder.j0 k y0 y1 y2 y3 y4 y5 y6) (parolelaw01_NumOrder.j0 (k + 1) y0 y1 y2 y3 y4 y5 y6)) ∧ (∀ y0 y1 y2 y3 y4 y5, LeO (parolelaw01_NumOrder.j1 k y0 y1 y2 y3 y4 y5) (parolelaw01_NumOrder.j1 (k + 1) y0 y1 y2 y3 y4 y5))
  | 0 => ⟨fun _ _ _ _ _ _ _ r h => by simp [parolelaw01_NumOrder.j0] at h, fun _ _ _ _ _ _ r h => by simp [parolelaw01_NumOrder.j1] at h⟩
  | k + 1 => by
    obtain ⟨ih0, ih1⟩ := parolelaw01_NumOrder.mono_l k
    refine ⟨?_, ?_⟩
    · intro y0 y1 y2 y3 y4 y5 y6
      unfold parolelaw01_NumOrder.j0
      repeat' first
      | (with_reducible exact ih0 _ _ _ _ _ _ _)
      | (with_reducible exact ih1 _ _ _ _ _ _)
      | (with_reducible exact num_Holds.mono _ _ _ _ _ _)
      | (with_reducible exact parolelaw01_examples.mono _)
      | (with_reducible exact LeO.refl _)
      | (with_reducible exact LeO.none _)
      | (with_reducible refine LeO.ite ?_ ?_)
      | (with_reducible refine LeO.bind ?_ (fun _ => ?_))
      | exact ih0 _ _ _ _ _ _ _
      | exact ih1 _ _ _ _ _ _
      | exact num_Holds.mono _ _ _ _ _ _
      | exact parolelaw01_examples.mono _
      | exact LeO.none _
      | refine LeO.ite ?_ ?_
      | refine LeO.bind ?_ (fun _ => ?_)
    · intro y0 y1 y2 y3 y4 y5
      unfold parolelaw01_NumOrder.j1
      repeat' first
      | (with_reducible exact ih0 _ _ _ _ _ _ _)
      | (with_reducible exact ih1 _ _ _ _ _ _)
      | (with_reducible exact num_Holds.mono _ _ _ _ _ _)
      | (with_reducible exact parolelaw01_examples.mono _)
      | (with_reducible exact LeO.refl _)
      | (with_reducible exact LeO.none _)
      | (with_reducible refine LeO.ite ?_ ?_)
      | (with_reducible refine LeO.bind ?_ (fun _ => ?_))
      | exact ih0 _ _ _ _ _ _ _
      | exact ih1 _ _ _ _ _ _
      | exact num_Holds.mono _ _ _ _ _ _
      | exact parolelaw01_examples.mono _
      | exact LeO.none _
      | refine LeO.ite ?_ ?_
      | refine LeO.bind ?_ (fun _ => ?_)
theorem parolelaw01_NumOrder.mono : ∀ a0 a1 a2 k, LeO (parolelaw01_NumOrder.f k a0 a1 a2) (parolelaw01_NumOrder.f (k + 1) a0 a1 a2) := by
  intro a0 a1 a2 k
  obtain ⟨ih0, ih1⟩ := parolelaw01_NumOrder.mono_l k
  unfold parolelaw01_NumOrder.f
  repeat' first
      | (with_reducible exact ih0 _ _ _ _ _ _ _)
      | (with_reducible exact ih1 _ _ _ _ _ _)
      | (with_reducible exact num_Holds.mono _ _ _ _ _ _)
      | (with_reducible exact parolelaw01_examples.mono _)
      | (with_reducible exact LeO.refl _)
      | (with_reducible exact LeO.none _)
      | (with_reducible refine LeO.ite ?_ ?_)
      | (with_reducible refine LeO.bind ?_ (fun _ => ?_))
      | exact ih0 _ _ _ _ _ _ _
      | exact ih1 _ _ _ _ _ _
      | exact num_Holds.mono _ _ _ _ _ _
      | exact parolelaw01_examples.mono _
      | exact LeO.none _
      | refine LeO.ite ?_ ?_
      | refine LeO.bind ?_ (fun _ => ?_)
set_option maxHeartbeats 8000000 in
set_option maxRecDepth 100000 in
theorem parolelaw01_NumOrder.calls (k : Nat) (a0 : Int) (a1 : Int) (a2 : Int) (r : Bool) (w : World) (h : parolelaw01_NumOrder.f k a0 a1 a2 = some r) :
    Calls Try.prog 5 #[.int .i32 a0, .int .i32 a1, .int .i32 a2] w fun e w' => e = .returned (.bool r) ∧ Below w.heap.size w w' := by
  have hu34 := Try.underlying34
  have HB := Aside0.mk (Below.refl w.heap.size w)
  have H : ((parolelaw01_examples.f k).bind fun t214 => (if t214 = true then ((num_Op.f 9 (wrap64 (a0)) (wrap64 (a1))).bind fun t215 => ((num_Op.f 10 (wrap64 (a0)) (wrap64 (a1))).bind fun t216 => (if t215 > t216 then (parolelaw01_NumOrder.j0 k t214 (wrap64 (a0)) (wrap64 (a1)) (wrap64 (a2)) t215 t216 true) else (if (wrap64 (t215 + t216)) = (wrap64 ((wrap64 (a0)) + (wrap64 (a1)))) then (if t215 = (wrap64 (a0)) then (parolelaw01_NumOrder.j0 k t214 (wrap64 (a0)) (wrap64 (a1)) (wrap64 (a2)) t215 t216 false) else (parolelaw01_NumOrder.j0 k t214 (wrap64 (a0)) (wrap64 (a1)) (wrap64 (a2)) t215 t216 (t215 != (wrap64 (a1))))) else (parolelaw01_NumOrder.j0 k t214 (wrap64 (a0)) (wrap64 (a1)) (wrap64 (a2)) t215 t216 true))))) else (some false))) = some r := h
  clear h
  replace H := Option.bind_eq_some_iff.mp H
  obtain ⟨t214, A40, H⟩ := H
  replace H : (if t214 = true then ((num_Op.f 9 (wrap64 (a0)) (wrap64 (a1))).bind fun t215 => ((num_Op.f 10 (wrap64 (a0)) (wrap64 (a1))).bind fun t216 => (if t215 > t216 then (parolelaw01_NumOrder.j0 k t214 (wrap64 (a0)) (wrap64 (a1)) (wrap64 (a2)) t215 t216 true) else (if (wrap64 (t215 + t216)) = (wrap64 ((wrap64 (a0)) + (wrap64 (a1)))) then (if t215 = (wrap64 (a0)) then (parolelaw01_NumOrder.j0 k t214 (wrap64 (a0)) (wrap64 (a1)) (wrap64 (a2)) t215 t216 false) else (parolelaw01_NumOrder.j0 k t214 (wrap64 (a0)) (wrap64 (a1)) (wrap64 (a2)) t215 t216 (t215 != (wrap64 (a1))))) else (parolelaw01_NumOrder.j0 k t214 (wrap64 (a0)) (wrap64 (a1)) (wrap64 (a2)) t215 t216 true))))) else (some false)) = some r := H
  have A4 := Aside0.mk A40
  clear A40
  by_cases c5 : t214 = true
  · subst c5
    have H1 : ((num_Op.f 9 (wrap64 (a0)) (wrap64 (a1))).bind fun t215 => ((num_Op.f 10 (wrap64 (a0)) (wrap64 (a1))).bind fun t216 => (if t215 > t216 then (parolelaw01_NumOrder.j0 k true (wrap64 (a0)) (wrap64 (a1)) (wrap64 (a2)) t215 t216 true) else (if (wrap64 (t215 + t216)) = (wrap64 ((wrap64 (a0)) + (wrap64 (a1)))) then (if t215 = (wrap64 (a0)) then (parolelaw01_NumOrder.j0 k true (wrap64 (a0)) (wrap64 (a1)) (wrap64 (a2)) t215 t216 false) else (parolelaw01_NumOrder.j0 k true (wrap64 (a0)) (wrap64 (a1)) (wrap64 (a2)) t215 t216 (t215 != (wrap64 (a1))))) else (parolelaw01_NumOrder.j0 k true (wrap64 (a0)) (wrap64 (a1)) (wrap64 (a2)) t215 t216 true))))) = some r := by rw [if_pos rfl] at H; exact H
    clear H
    have H := H1
    clear H1
    replace H := Option.bind_eq_some_iff.mp H
    obtain ⟨t215, A60, H⟩ := H
    replace H : ((num_Op.f 10 (wrap64 (a0)) (wrap64 (a1))).bind fun t216 => (if t215 > t216 then (parolelaw01_NumOrder.j0 k true (wrap64 (a0)) (wrap64 (a1)) (wrap64 (a2)) t215 t216 true) else (if (wrap64 (t215 + t216)) = (wrap64 ((wrap64 (a0)) + (wrap64 (a1)))) then (if t215 = (wrap64 (a0)) then (parolelaw01_NumOrder.j0 k true (wrap64 (a0)) (wrap64 (a1)) (wrap64 (a2)) t215 t216 false) else (parolelaw01_NumOrder.j0 k true (wrap64 (a0)) (wrap64 (a1)) (wrap64 (a2)) t215 t216 (t215 != (wrap64 (a1))))) else (parolelaw01_NumOrder.j0 k true (wrap64 (a0)) (wrap64 (a1)) (wrap64 (a2)) t215 t216 true)))) = some r := H
    have A6 := Aside0.mk A60
    clear A60
    replace H := Option.bind_eq_some_iff.mp H
    obtain ⟨t216, A70, H⟩ := H
    replace H : (if t215 > t216 then (parolelaw01_NumOrder.j0 k true (wrap64 (a0)) (wrap64 (a1)) (wrap64 (a2)) t215 t216 true) else (if (wrap64 (t215 + t216)) = (wrap64 ((wrap64 (a0)) + (wrap64 (a1)))) then (if t215 = (wrap64 (a0)) then (parolelaw01_NumOrder.j0 k true (wrap64 (a0)) (wrap64 (a1)) (wrap64 (a2)) t215 t216 false) else (parolelaw01_NumOrder.j0 k true (wrap64 (a0)) (wrap64 (a1)) (wrap64 (a2)) t215 t216 (t215 != (wrap64 (a1))))) else (parolelaw01_NumOrder.j0 k true (wrap64 (a0)) (wrap64 (a1)) (wrap64 (a2)) t215 t216 true))) = some r := H
    have A7 := Aside0.mk A70
    clear A70
    have HC8 := Aside0.mk H
    clear H
    go_enter Try.func5, Try.ntmps5
    go_upto_region 6 with (first | ((with_reducible refine gate_callee (f := 10) rfl ?_); refine goesL_ (some 14) rfl rfl Try.func10 (by kernel_rfl) rfl #[] rfl (by (try simp only [List.map_toArray, List.map_cons, List.map_nil]); first | done | rfl | (simp only [List.length_drop, List.length_take]; rfl)) ?_; (with_reducible refine (parolelaw01_examples.calls k  true _ A4.out).mono ?_); rintro e w9 ⟨rfl, hb⟩; refine ⟨_, rfl, ?_⟩; have n0_ := Aside0.mk (below_step (by repeat (first | (with_reducible first | exact HB.out | apply below_alloc | apply pw_below_drewN | apply below_drew1) | exact HB.out)) hb); clear HB; have HB := n0_; clear n0_; (try clear hb); (try clear hb2); (try clear hk); (try clear hi)) | ((with_reducible refine gate_callee (f := 11) rfl ?_); refine goesL_ (some 25) rfl rfl Try.func11 (by kernel_rfl) rfl #[.int .i64 9, .int .i64 (wrap64 (a0)), .int .i64 (wrap64 (a1))] rfl (by (try simp only [List.map_toArray, List.map_cons, List.map_nil]); first | done | rfl | (simp only [List.length_drop, List.length_take]; rfl)) ?_; (with_reducible refine (num_Op.calls 9 (wrap64 (a0)) (wrap64 (a1)) t215 _ A6.out).mono ?_); rintro e w10 ⟨rfl, hb⟩; refine ⟨_, rfl, ?_⟩; have n0_ := Aside0.mk (below_step (by repeat (first | (with_reducible first | exact HB.out | apply below_alloc | apply pw_below_drewN | apply below_drew1) | exact HB.out)) hb); clear HB; have HB := n0_; clear n0_; (try clear hb); (try clear hb2); (try clear hk); (try clear hi)) | ((with_reducible refine gate_callee (f := 11) rfl ?_); refine goesL_ (some 28) rfl rfl Try.func11 (by kernel_rfl) rfl #[.int .i64 10, .int .i64 (wrap64 (a0)), .int .i64 (wrap64 (a1))] rfl (by (try simp only [List.map_toArray, List.map_cons, List.map_nil]); first | done | rfl | (simp only [List.length_drop, List.length_take]; rfl)) ?_; (with_reducible refine (num_Op.calls 10 (wrap64 (a0)) (wrap64 (a1)) t216 _ A7.out).mono ?_); rintro e w11 ⟨rfl, hb⟩; refine ⟨_, rfl, ?_⟩; have n0_ := Aside0.mk (below_step (by repeat (first | (with_reducible first | exact HB.out | apply below_alloc | apply pw_below_drewN | apply below_drew1) | exact HB.out)) hb); clear HB; have HB := n0_; clear n0_; (try clear hb); (try clear hb2); (try clear hk); (try clear hi)))
    (try simp only [Act.put, List.setIfInBounds_toArray, List.set_cons_zero, List.set_cons_succ])
    go_cut [50] (fun v50 wc => ∃ (kq : Nat) (x50_7 : Bool), v50 = .bool x50_7 ∧ Aside0 (parolelaw01_NumOrder.j0 kq true (wrap64 (a0)) (wrap64 (a1)) (wrap64 (a2)) t215 t216 x50_7 = some r) ∧ Aside0 (kq ≤ k) ∧ Aside0 (Below w.heap.size w wc))
    case first =>
      have H := HC8.out
      clear HC8
      by_cases c12 : t215 > t216
      · rw [if_pos c12] at H
        have c12b0 : decide (t216 < t215) = true := decide_eq_true c12
        clear c12
        (first | rw [c12b0] | (simp only [i64_w, i32_w]; rw [c12b0]) | skip)
        have H' := Aside0.mk H
        clear H
        go_wp2
        go_meet
        case rel => exact ⟨_, (true), (by first | rfl | (simp; done) | (simp [*]; done)), H', ⟨by first | omega | exact Nat.le_refl _⟩, ⟨by repeat (first | (with_reducible first | exact HB.out | apply below_alloc | apply pw_below_drewN | apply below_drew1) | exact HB.out)⟩⟩
      · rw [if_neg c12] at H
        have c12b0 : decide (t216 < t215) = false := decide_eq_false c12
        clear c12
        (first | rw [c12b0] | (simp only [i64_w, i32_w]; rw [c12b0]) | skip)
        by_cases c13 : (wrap64 (t215 + t216)) = (wrap64 ((wrap64 (a0)) + (wrap64 (a1))))
        · rw [if_pos c13] at H
          have c13b0 : ((wrap64 (t215 + t216)) == (wrap64 ((wrap64 (a0)) + (wrap64 (a1))))) = true := beq_iff_eq.mpr c13
          have c13b1 : ((wrap64 (t215 + t216)) != (wrap64 ((wrap64 (a0)) + (wrap64 (a1))))) = false := bne_eq_false_iff_eq.mpr c13
          clear c13
          by_cases c14 : t215 = (wrap64 (a0))
          · rw [if_pos c14] at H
            have c14b0 : (t215 == (wrap64 (a0))) = true := beq_iff_eq.mpr c14
            have c14b1 : (t215 != (wrap64 (a0))) = false := bne_eq_false_iff_eq.mpr c14
            clear c14
            have H' := Aside0.mk H
            clear H
            go_wp2
            go_meet
            case rel => exact ⟨_, (false), (by first | rfl | (simp; done) | (simp [*]; done)), H', ⟨by first | omega | exact Nat.le_refl _⟩, ⟨by repeat (first | (with_reducible first | exact HB.out | apply below_alloc | apply pw_below_drewN | apply below_drew1) | exact HB.out)⟩⟩
          · rw [if_neg c14] at H
            have c14b0 : (t215 == (wrap64 (a0))) = false := beq_eq_false_iff_ne.mpr c14
            have c14b1 : (t215 != (wrap64 (a0))) = true := bne_iff_ne.mpr c14
            have H' := Aside0.mk H
            clear H
            go_wp2
            go_meet
            case rel => exact ⟨_, ((t215 != (wrap64 (a1)))), (by first | rfl | (simp; done) | (simp [*]; done)), H', ⟨by first | omega | exact Nat.le_refl _⟩, ⟨by repeat (first | (with_reducible first | exact HB.out | apply below_alloc | apply pw_below_drewN | apply below_drew1) | exact HB.out)⟩⟩
        · rw [if_neg c13] at H
          have c13b0 : ((wrap64 (t215 + t216)) == (wrap64 ((wrap64 (a0)) + (wrap64 (a1))))) = false := beq_eq_false_iff_ne.mpr c13
          have c13b1 : ((wrap64 (t215 + t216)) != (wrap64 ((wrap64 (a0)) + (wrap64 (a1))))) = true := bne_iff_ne.mpr c13
          have H' := Aside0.mk H
          clear H
          go_wp2
          go_meet
          case rel => exact ⟨_, (true), (by first | rfl | (simp; done) | (simp [*]; done)), H', ⟨by first | omega | exact Nat.le_refl _⟩, ⟨by repeat (first | (with_reducible first | exact HB.out | apply below_alloc | apply pw_below_drewN | apply below_drew1) | exact HB.out)⟩⟩
    case rest =>
      clear HC8
      try clear c1
      try clear p2
      try clear c5
      try clear p6
      try clear c10
      try clear c11
      try clear c12
      try clear c12b0
      try clear c13
      try clear c13b0
      try clear c13b1
      try clear c14
      try clear c14b0
      try clear c14b1
      obtain ⟨kq, x50_7, rfl, HA, HJ7, HB⟩ := hcut
      cases kq with
      | zero => exact absurd HA.out (by simp [parolelaw01_NumOrder.j0])
      | succ kj7 =>
        have H := HA.out
        clear HA
        simp only [parolelaw01_NumOrder.j0] at H
        by_cases c15 : x50_7 = true
        · subst c15
          have H1 : (some false) = some r := by rw [if_pos rfl] at H; exact H
          clear H
          have H := H1
          clear H1
          obtain rfl := Option.some.inj H
          go_wp2
          go_ret
          exact ⟨by first | rfl | (simp [errW_none, errW_some] <;> rfl) | (simp [*, errW_none, errW_some] <;> rfl), by repeat (first | (with_reducible first | exact HB.out | apply below_alloc | apply pw_below_drewN | apply below_drew1) | exact HB.out)⟩
        · replace c15 := Bool.eq_false_iff.mpr c15
          subst c15
          have H1 : ((num_Op.f 9 t215 (wrap64 (a2))).bind fun t217 => ((num_Op.f 9 (wrap64 (a1)) (wrap64 (a2))).bind fun t218 => ((num_Op.f 9 (wrap64 (a0)) t218).bind fun t219 => (if t217 = t219 then ((num_Op.f 10 (wrap64 (a0)) t215).bind fun t220 => (if t220 = (wrap64 (a0)) then ((num_Op.f 9 (wrap64 (a0)) t216).bind fun t221 => (if t221 = (wrap64 (a0)) then ((num_Op.f 9 (wrap64 (a1)) (wrap64 (a0))).bind fun t222 => (parolelaw01_NumOrder.j1 kj7 true (wrap64 (a0)) (wrap64 (a1)) t215 t216 (t215 != t222))) else (parolelaw01_NumOrder.j1 kj7 true (wrap64 (a0)) (wrap64 (a1)) t215 t216 true))) else (parolelaw01_NumOrder.j1 kj7 true (wrap64 (a0)) (wrap64 (a1)) t215 t216 true))) else (parolelaw01_NumOrder.j1 kj7 true (wrap64 (a0)) (wrap64 (a1)) t215 t216 true))))) = some r := by rw [if_neg (show ¬ (false = true) by decide)] at H; exact H
          clear H
          have H := H1
          clear H1
          have HC16 := Aside0.mk H
          clear H
          go_upto_region 8 with (fail)
          go_cut [80] (fun v80 wc => ∃ (kq : Nat) (x80_15 : Bool), v80 = .bool x80_15 ∧ Aside0 (parolelaw01_NumOrder.j1 kq true (wrap64 (a0)) (wrap64 (a1)) t215 t216 x80_15 = some r) ∧ Aside0 (kq ≤ kj7) ∧ Aside0 (Below w.heap.size w wc))
          case first =>
            have H := HC16.out
            clear HC16
            replace H := Option.bind_eq_some_iff.mp H
            obtain ⟨t217, A170, H⟩ := H
            replace H : ((num_Op.f 9 (wrap64 (a1)) (wrap64 (a2))).bind fun t218 => ((num_Op.f 9 (wrap64 (a0)) t218).bind fun t219 => (if t217 = t219 then ((num_Op.f 10 (wrap64 (a0)) t215).bind fun t220 => (if t220 = (wrap64 (a0)) then ((num_Op.f 9 (wrap64 (a0)) t216).bind fun t221 => (if t221 = (wrap64 (a0)) then ((num_Op.f 9 (wrap64 (a1)) (wrap64 (a0))).bind fun t222 => (parolelaw01_NumOrder.j1 kj7 true (wrap64 (a0)) (wrap64 (a1)) t215 t216 (t215 != t222))) else (parolelaw01_NumOrder.j1 kj7 true (wrap64 (a0)) (wrap64 (a1)) t215 t216 true))) else (parolelaw01_NumOrder.j1 kj7 true (wrap64 (a0)) (wrap64 (a1)) t215 t216 true))) else (parolelaw01_NumOrder.j1 kj7 true (wrap64 (a0)) (wrap64 (a1)) t215 t216 true)))) = some r := H
            have A17 := Aside0.mk A170
            clear A170
            replace H := Option.bind_eq_some_iff.mp H
            obtain ⟨t218, A180, H⟩ := H
            replace H : ((num_Op.f 9 (wrap64 (a0)) t218).bind fun t219 => (if t217 = t219 then ((num_Op.f 10 (wrap64 (a0)) t215).bind fun t220 => (if t220 = (wrap64 (a0)) then ((num_Op.f 9 (wrap64 (a0)) t216).bind fun t221 => (if t221 = (wrap64 (a0)) then ((num_Op.f 9 (wrap64 (a1)) (wrap64 (a0))).bind fun t222 => (parolelaw01_NumOrder.j1 kj7 true (wrap64 (a0)) (wrap64 (a1)) t215 t216 (t215 != t222))) else (parolelaw01_NumOrder.j1 kj7 true (wrap64 (a0)) (wrap64 (a1)) t215 t216 true))) else (parolelaw01_NumOrder.j1 kj7 true (wrap64 (a0)) (wrap64 (a1)) t215 t216 true))) else (parolelaw01_NumOrder.j1 kj7 true (wrap64 (a0)) (wrap64 (a1)) t215 t216 true))) = some r := H
            have A18 := Aside0.mk A180
            clear A180
            replace H := Option.bind_eq_some_iff.mp H
            obtain ⟨t219, A190, H⟩ := H
            replace H : (if t217 = t219 then ((num_Op.f 10 (wrap64 (a0)) t215).bind fun t220 => (if t220 = (wrap64 (a0)) then ((num_Op.f 9 (wrap64 (a0)) t216).bind fun t221 => (if t221 = (wrap64 (a0)) then ((num_Op.f 9 (wrap64 (a1)) (wrap64 (a0))).bind fun t222 => (parolelaw01_NumOrder.j1 kj7 true (wrap64 (a0)) (wrap64 (a1)) t215 t216 (t215 != t222))) else (parolelaw01_NumOrder.j1 kj7 true (wrap64 (a0)) (wrap64 (a1)) t215 t216 true))) else (parolelaw01_NumOrder.j1 kj7 true (wrap64 (a0)) (wrap64 (a1)) t215 t216 true))) else (parolelaw01_NumOrder.j1 kj7 true (wrap64 (a0)) (wrap64 (a1)) t215 t216 true)) = some r := H
            have A19 := Aside0.mk A190
            clear A190
            by_cases c20 : t217 = t219
            · rw [if_pos c20] at H
              have c20b0 : (t217 == t219) = true := beq_iff_eq.mpr c20
              have c20b1 : (t217 != t219) = false := bne_eq_false_iff_eq.mpr c20
              clear c20
              (first | rw [c20b0] | (simp only [i64_w, i32_w]; rw [c20b0]) | skip)
              replace H := Option.bind_eq_some_iff.mp H
              obtain ⟨t220, A210, H⟩ := H
              replace H : (if t220 = (wrap64 (a0)) then ((num_Op.f 9 (wrap64 (a0)) t216).bind fun t221 => (if t221 = (wrap64 (a0)) then ((num_Op.f 9 (wrap64 (a1)) (wrap64 (a0))).bind fun t222 => (parolelaw01_NumOrder.j1 kj7 true (wrap64 (a0)) (wrap64 (a1)) t215 t216 (t215 != t222))) else (parolelaw01_NumOrder.j1 kj7 true (wrap64 (a0)) (wrap64 (a1)) t215 t216 true))) else (parolelaw01_NumOrder.j1 kj7 true (wrap64 (a0)) (wrap64 (a1)) t215 t216 true)) = some r := H
              have A21 := Aside0.mk A210
              clear A210
              by_cases c22 : t220 = (wrap64 (a0))
              · rw [if_pos c22] at H
                have c22b0 : (t220 == (wrap64 (a0))) = true := beq_iff_eq.mpr c22
                have c22b1 : (t220 != (wrap64 (a0))) = false := bne_eq_false_iff_eq.mpr c22
                clear c22
                replace H := Option.bind_eq_some_iff.mp H
                obtain ⟨t221, A230, H⟩ := H
                replace H : (if t221 = (wrap64 (a0)) then ((num_Op.f 9 (wrap64 (a1)) (wrap64 (a0))).bind fun t222 => (parolelaw01_NumOrder.j1 kj7 true (wrap64 (a0)) (wrap64 (a1)) t215 t216 (t215 != t222))) else (parolelaw01_NumOrder.j1 kj7 true (wrap64 (a0)) (wrap64 (a1)) t215 t216 true)) = some r := H
                have A23 := Aside0.mk A230
                clear A230
                by_cases c24 : t221 = (wrap64 (a0))
                · rw [if_pos c24] at H
                  have c24b0 : (t221 == (wrap64 (a0))) = true := beq_iff_eq.mpr c24
                  have c24b1 : (t221 != (wrap64 (a0))) = false := bne_eq_false_iff_eq.mpr c24
                  clear c24
                  replace H := Option.bind_eq_some_iff.mp H
                  obtain ⟨t222, A250, H⟩ := H
                  replace H : (parolelaw01_NumOrder.j1 kj7 true (wrap64 (a0)) (wrap64 (a1)) t215 t216 (t215 != t222)) = some r := H
                  have A25 := Aside0.mk A250
                  clear A250
                  have H' := Aside0.mk H
                  clear H
                  go_wp2_with (first | ((with_reducible refine gate_callee (f := 11) rfl ?_); refine goesL_ (some 53) rfl rfl Try.func11 (by kernel_rfl) rfl #[.int .i64 9, .int .i64 t215, .int .i64 (wrap64 (a2))] rfl (by (try simp only [List.map_toArray, List.map_cons, List.map_nil]); first | done | rfl | (simp only [List.length_drop, List.length_take]; rfl)) ?_; (with_reducible refine (num_Op.calls 9 t215 (wrap64 (a2)) t217 _ A17.out).mono ?_); rintro e w26 ⟨rfl, hb⟩; refine ⟨_, rfl, ?_⟩; have n0_ := Aside0.mk (below_step (by repeat (first | (with_reducible first | exact HB.out | apply below_alloc | apply pw_below_drewN | apply below_drew1) | exact HB.out)) hb); clear HB; have HB := n0_; clear n0_; (try clear hb); (try clear hb2); (try clear hk); (try clear hi)) | ((with_reducible refine gate_callee (f := 11) rfl ?_); refine goesL_ (some 57) rfl rfl Try.func11 (by kernel_rfl) rfl #[.int .i64 9, .int .i64 (wrap64 (a1)), .int .i64 (wrap64 (a2))] rfl (by (try simp only [List.map_toArray, List.map_cons, List.map_nil]); first | done | rfl | (simp only [List.length_drop, List.length_take]; rfl)) ?_; (with_reducible refine (num_Op.calls 9 (wrap64 (a1)) (wrap64 (a2)) t218 _ A18.out).mono ?_); rintro e w27 ⟨rfl, hb⟩; refine ⟨_, rfl, ?_⟩; have n0_ := Aside0.mk (below_step (by repeat (first | (with_reducible first | exact HB.out | apply below_alloc | apply pw_below_drewN | apply below_drew1) | exact HB.out)) hb); clear HB; have HB := n0_; clear n0_; (try clear hb); (try clear hb2); (try clear hk); (try clear hi)) | ((with_reducible refine gate_callee (f := 11) rfl ?_); refine goesL_ (some 58) rfl rfl Try.func11 (by kernel_rfl) rfl #[.int .i64 9, .int .i64 (wrap64 (a0)), .int .i64 t218] rfl (by (try simp only [List.map_toArray, List.map_cons, List.map_nil]); first | done | rfl | (simp only [List.length_drop, List.length_take]; rfl)) ?_; (with_reducible refine (num_Op.calls 9 (wrap64 (a0)) t218 t219 _ A19.out).mono ?_); rintro e w28 ⟨rfl, hb⟩; refine ⟨_, rfl, ?_⟩; have n0_ := Aside0.mk (below_step (by repeat (first | (with_reducible first | exact HB.out | apply below_alloc | apply pw_below_drewN | apply below_drew1) | exact HB.out)) hb); clear HB; have HB := n0_; clear n0_; (try clear hb); (try clear hb2); (try clear hk); (try clear hi)) | (go_at_call 11; (with_reducible refine (num_Op.calls 10 (wrap64 (a0)) t215 t220 _ A21.out).mono ?_); rintro e w29 ⟨rfl, hb⟩; have n0_ := Aside0.mk (below_step (by repeat (first | (with_reducible first | exact HB.out | apply below_alloc | apply pw_below_drewN | apply below_drew1) | exact HB.out)) hb); clear HB; have HB := n0_; clear n0_; (try clear hb); (try clear hb2); (try clear hk); (try clear hi)) | (go_at_call 11; (with_reducible refine (num_Op.calls 9 (wrap64 (a0)) t216 t221 _ A23.out).mono ?_); rintro e w30 ⟨rfl, hb⟩; have n0_ := Aside0.mk (below_step (by repeat (first | (with_reducible first | exact HB.out | apply below_alloc | apply pw_below_drewN | apply below_drew1) | exact HB.out)) hb); clear HB; have HB := n0_; clear n0_; (try clear hb); (try clear hb2); (try clear hk); (try clear hi)) | (go_at_call 11; (with_reducible refine (num_Op.calls 9 (wrap64 (a1)) (wrap64 (a0)) t222 _ A25.out).mono ?_); rintro e w31 ⟨rfl, hb⟩; have n0_ := Aside0.mk (below_step (by repeat (first | (with_reducible first | exact HB.out | apply below_alloc | apply pw_below_drewN | apply below_drew1) | exact HB.out)) hb); clear HB; have HB := n0_; clear n0_; (try clear hb); (try clear hb2); (try clear hk); (try clear hi)))
                  go_meet
                  case rel => exact ⟨_, ((t215 != t222)), (by first | rfl | (simp; done) | (simp [*]; done)), H', ⟨by have := HJ7.out; first | omega | exact Nat.le_refl _⟩, ⟨by repeat (first | (with_reducible first | exact HB.out | apply below_alloc | apply pw_below_drewN | apply below_drew1) | exact HB.out)⟩⟩
                · rw [if_neg c24] at H
                  have c24b0 : (t221 == (wrap64 (a0))) = false := beq_eq_false_iff_ne.mpr c24
                  have c24b1 : (t221 != (wrap64 (a0))) = true := bne_iff_ne.mpr c24
                  have H' := Aside0.mk H
                  clear H
                  go_wp2_with (first | ((with_reducible refine gate_callee (f := 11) rfl ?_); refine goesL_ (some 53) rfl rfl Try.func11 (by kernel_rfl) rfl #[.int .i64 9, .int .i64 t215, .int .i64 (wrap64 (a2))] rfl (by (try simp only [List.map_toArray, List.map_cons, List.map_nil]); first | done | rfl | (simp only [List.length_drop, List.length_take]; rfl)) ?_; (with_reducible refine (num_Op.calls 9 t215 (wrap64 (a2)) t217 _ A17.out).mono ?_); rintro e w32 ⟨rfl, hb⟩; refine ⟨_, rfl, ?_⟩; have n0_ := Aside0.mk (below_step (by repeat (first | (with_reducible first | exact HB.out | apply below_alloc | apply pw_below_drewN | apply below_drew1) | exact HB.out)) hb); clear HB; have HB := n0_; clear n0_; (try clear hb); (try clear hb2); (try clear hk); (try clear hi)) | ((with_reducible refine gate_callee (f := 11) rfl ?_); refine goesL_ (some 57) rfl rfl Try.func11 (by kernel_rfl) rfl #[.int .i64 9, .int .i64 (wrap64 (a1)), .int .i64 (wrap64 (a2))] rfl (by (try simp only [List.map_toArray, List.map_cons, List.map_nil]); first | done | rfl | (simp only [List.length_drop, List.length_take]; rfl)) ?_; (with_reducible refine (num_Op.calls 9 (wrap64 (a1)) (wrap64 (a2)) t218 _ A18.out).mono ?_); rintro e w33 ⟨rfl, hb⟩; refine ⟨_, rfl, ?_⟩; have n0_ := Aside0.mk (below_step (by repeat (first | (with_reducible first | exact HB.out | apply below_alloc | apply pw_below_drewN | apply below_drew1) | exact HB.out)) hb); clear HB; have HB := n0_; clear n0_; (try clear hb); (try clear hb2); (try clear hk); (try clear hi)) | ((with_reducible refine gate_callee (f := 11) rfl ?_); refine goesL_ (some 58) rfl rfl Try.func11 (by kernel_rfl) rfl #[.int .i64 9, .int .i64 (wrap64 (a0)), .int .i64 t218] rfl (by (try simp only [List.map_toArray, List.map_cons, List.map_nil]); first | done | rfl | (simp only [List.length_drop, List.length_take]; rfl)) ?_; (with_reducible refine (num_Op.calls 9 (wrap64 (a0)) t218 t219 _ A19.out).mono ?_); rintro e w34 ⟨rfl, hb⟩; refine ⟨_, rfl, ?_⟩; have n0_ := Aside0.mk (below_step (by repeat (first | (with_reducible first | exact HB.out | apply below_alloc | apply pw_below_drewN | apply below_drew1) | exact HB.out)) hb); clear HB; have HB := n0_; clear n0_; (try clear hb); (try clear hb2); (try clear hk); (try clear hi)) | (go_at_call 11; (with_reducible refine (num_Op.calls 10 (wrap64 (a0)) t215 t220 _ A21.out).mono ?_); rintro e w35 ⟨rfl, hb⟩; have n0_ := Aside0.mk (below_step (by repeat (first | (with_reducible first | exact HB.out | apply below_alloc | apply pw_below_drewN | apply below_drew1) | exact HB.out)) hb); clear HB; have HB := n0_; clear n0_; (try clear hb); (try clear hb2); (try clear hk); (try clear hi)) | (go_at_call 11; (with_reducible refine (num_Op.calls 9 (wrap64 (a0)) t216 t221 _ A23.out).mono ?_); rintro e w36 ⟨rfl, hb⟩; have n0_ := Aside0.mk (below_step (by repeat (first | (with_reducible first | exact HB.out | apply below_alloc | apply pw_below_drewN | apply below_drew1) | exact HB.out)) hb); clear HB; have HB := n0_; clear n0_; (try clear hb); (try clear hb2); (try clear hk); (try clear hi)))
                  go_meet
                  case rel => exact ⟨_, (true), (by first | rfl | (simp; done) | (simp [*]; done)), H', ⟨by have := HJ7.out; first | omega | exact Nat.le_refl _⟩, ⟨by repeat (first | (with_reducible first | exact HB.out | apply below_alloc | apply pw_below_drewN | apply below_drew1) | exact HB.out)⟩⟩
              · rw [if_neg c22] at H
                have c22b0 : (t220 == (wrap64 (a0))) = false := beq_eq_false_iff_ne.mpr c22
                have c22b1 : (t220 != (wrap64 (a0))) = true := bne_iff_ne.mpr c22
                have H' := Aside0.mk H
                clear H
                go_wp2_with (first | ((with_reducible refine gate_callee (f := 11) rfl ?_); refine goesL_ (some 53) rfl rfl Try.func11 (by kernel_rfl) rfl #[.int .i64 9, .int .i64 t215, .int .i64 (wrap64 (a2))] rfl (by (try simp only [List.map_toArray, List.map_cons, List.map_nil]); first | done | rfl | (simp only [List.length_drop, List.length_take]; rfl)) ?_; (with_reducible refine (num_Op.calls 9 t215 (wrap64 (a2)) t217 _ A17.out).mono ?_); rintro e w37 ⟨rfl, hb⟩; refine ⟨_, rfl, ?_⟩; have n0_ := Aside0.mk (below_step (by repeat (first | (with_reducible first | exact HB.out | apply below_alloc | apply pw_below_drewN | apply below_drew1) | exact HB.out)) hb); clear HB; have HB := n0_; clear n0_; (try clear hb); (try clear hb2); (try clear hk); (try clear hi)) | ((with_reducible refine gate_callee (f := 11) rfl ?_); refine goesL_ (some 57) rfl rfl Try.func11 (by kernel_rfl) rfl #[.int .i64 9, .int .i64 (wrap64 (a1)), .int .i64 (wrap64 (a2))] rfl (by (try simp only [List.map_toArray, List.map_cons, List.map_nil]); first | done | rfl | (simp only [List.length_drop, List.length_take]; rfl)) ?_; (with_reducible refine (num_Op.calls 9 (wrap64 (a1)) (wrap64 (a2)) t218 _ A18.out).mono ?_); rintro e w38 ⟨rfl, hb⟩; refine ⟨_, rfl, ?_⟩; have n0_ := Aside0.mk (below_step (by repeat (first | (with_reducible first | exact HB.out | apply below_alloc | apply pw_below_drewN | apply below_drew1) | exact HB.out)) hb); clear HB; have HB := n0_; clear n0_; (try clear hb); (try clear hb2); (try clear hk); (try clear hi)) | ((with_reducible refine gate_callee (f := 11) rfl ?_); refine goesL_ (some 58) rfl rfl Try.func11 (by kernel_rfl) rfl #[.int .i64 9, .int .i64 (wrap64 (a0)), .int .i64 t218] rfl (by (try simp only [List.map_toArray, List.map_cons, List.map_nil]); first | done | rfl | (simp only [List.length_drop, List.length_take]; rfl)) ?_; (with_reducible refine (num_Op.calls 9 (wrap64 (a0)) t218 t219 _ A19.out).mono ?_); rintro e w39 ⟨rfl, hb⟩; refine ⟨_, rfl, ?_⟩; have n0_ := Aside0.mk (below_step (by repeat (first | (with_reducible first | exact HB.out | apply below_alloc | apply pw_below_drewN | apply below_drew1) | exact HB.out)) hb); clear HB; have HB := n0_; clear n0_; (try clear hb); (try clear hb2); (try clear hk); (try clear hi)) | (go_at_call 11; (with_reducible refine (num_Op.calls 10 (wrap64 (a0)) t215 t220 _ A21.out).mono ?_); rintro e w40 ⟨rfl, hb⟩; have n0_ := Aside0.mk (below_step (by repeat (first | (with_reducible first | exact HB.out | apply below_alloc | apply pw_below_drewN | apply below_drew1) | exact HB.out)) hb); clear HB; have HB := n0_; clear n0_; (try clear hb); (try clear hb2); (try clear hk); (try clear hi)))
                go_meet
                case rel => exact ⟨_, (true), (by first | rfl | (simp; done) | (simp [*]; done)), H', ⟨by have := HJ7.out; first | omega | exact Nat.le_refl _⟩, ⟨by repeat (first | (with_reducible first | exact HB.out | apply below_alloc | apply pw_below_drewN | apply below_drew1) | exact HB.out)⟩⟩
            · rw [if_neg c20] at H
              have c20b0 : (t217 == t219) = false := beq_eq_false_iff_ne.mpr c20
              have c20b1 : (t217 != t219) = true := bne_iff_ne.mpr c20
              (first | rw [c20b0] | (simp only [i64_w, i32_w]; rw [c20b0]) | skip)
              have H' := Aside0.mk H
              clear H
              go_wp2_with (first | ((with_reducible refine gate_callee (f := 11) rfl ?_); refine goesL_ (some 53) rfl rfl Try.func11 (by kernel_rfl) rfl #[.int .i64 9, .int .i64 t215, .int .i64 (wrap64 (a2))] rfl (by (try simp only [List.map_toArray, List.map_cons, List.map_nil]); first | done | rfl | (simp only [List.length_drop, List.length_take]; rfl)) ?_; (with_reducible refine (num_Op.calls 9 t215 (wrap64 (a2)) t217 _ A17.out).mono ?_); rintro e w41 ⟨rfl, hb⟩; refine ⟨_, rfl, ?_⟩; have n0_ := Aside0.mk (below_step (by repeat (first | (with_reducible first | exact HB.out | apply below_alloc | apply pw_below_drewN | apply below_drew1) | exact HB.out)) hb); clear HB; have HB := n0_; clear n0_; (try clear hb); (try clear hb2); (try clear hk); (try clear hi)) | ((with_reducible refine gate_callee (f := 11) rfl ?_); refine goesL_ (some 57) rfl rfl Try.func11 (by kernel_rfl) rfl #[.int .i64 9, .int .i64 (wrap64 (a1)), .int .i64 (wrap64 (a2))] rfl (by (try simp only [List.map_toArray, List.map_cons, List.map_nil]); first | done | rfl | (simp only [List.length_drop, List.length_take]; rfl)) ?_; (with_reducible refine (num_Op.calls 9 (wrap64 (a1)) (wrap64 (a2)) t218 _ A18.out).mono ?_); rintro e w42 ⟨rfl, hb⟩; refine ⟨_, rfl, ?_⟩; have n0_ := Aside0.mk (below_step (by repeat (first | (with_reducible first | exact HB.out | apply below_alloc | apply pw_below_drewN | apply below_drew1) | exact HB.out)) hb); clear HB; have HB := n0_; clear n0_; (try clear hb); (try clear hb2); (try clear hk); (try clear hi)) | ((with_reducible refine gate_callee (f := 11) rfl ?_); refine goesL_ (some 58) rfl rfl Try.func11 (by kernel_rfl) rfl #[.int .i64 9, .int .i64 (wrap64 (a0)), .int .i64 t218] rfl (by (try simp only [List.map_toArray, List.map_cons, List.map_nil]); first | done | rfl | (simp only [List.length_drop, List.length_take]; rfl)) ?_; (with_reducible refine (num_Op.calls 9 (wrap64 (a0)) t218 t219 _ A19.out).mono ?_); rintro e w43 ⟨rfl, hb⟩; refine ⟨_, rfl, ?_⟩; have n0_ := Aside0.mk (below_step (by repeat (first | (with_reducible first | exact HB.out | apply below_alloc | apply pw_below_drewN | apply below_drew1) | exact HB.out)) hb); clear HB; have HB := n0_; clear n0_; (try clear hb); (try clear hb2); (try clear hk); (try clear hi)))
              go_meet
              case rel => exact ⟨_, (true), (by first | rfl | (simp; done) | (simp [*]; done)), H', ⟨by have := HJ7.out; first | omega | exact Nat.le_refl _⟩, ⟨by repeat (first | (with_reducible first | exact HB.out | apply below_alloc | apply pw_below_drewN | apply below_drew1) | exact HB.out)⟩⟩
          case rest =>
            clear HC16
            try clear c1
            try clear c2
            try clear p2
            try clear c5
            try clear p6
            try clear c10
            try clear c11
            try clear c12
            try clear c12b0
            try clear c13
            try clear c13b0
            try clear c13b1
            try clear c14
            try clear c14b0
            try clear c14b1
            try clear c15
            try clear c20
            try clear c20b0
            try clear c20b1
            try clear c22
            try clear c22b0
            try clear c22b1
            try clear c24
            try clear c24b0
            try clear c24b1
            try clear p2
            try clear p6
            obtain ⟨kq, x80_15, rfl, HA, HJ15, HB⟩ := hcut
            cases kq with
            | zero => exact absurd HA.out (by simp [parolelaw01_NumOrder.j1])
            | succ kj15 =>
              have H := HA.out
              clear HA
              simp only [parolelaw01_NumOrder.j1] at H
              by_cases c44 : x80_15 = true
              · subst c44
                have H1 : (some false) = some r := by rw [if_pos rfl] at H; exact H
                clear H
                have H := H1
                clear H1
                obtain rfl := Option.some.inj H
                go_wp2
                go_ret
                exact ⟨by first | rfl | (simp [errW_none, errW_some] <;> rfl) | (simp [*, errW_none, errW_some] <;> rfl), by repeat (first | (with_reducible first | exact HB.out | apply below_alloc | apply pw_below_drewN | apply below_drew1) | exact HB.out)⟩
              · replace c44 := Bool.eq_false_iff.mpr c44
                subst c44
                have H1 : ((paroleref01_Num.f (wrap64 (a0))).bind fun bt223 => ((paroleref01_Num.f (wrap64 (a1))).bind fun bt229 => ((some (([(⟨bt223.1, bt223.2.1, bt223.2.2.1, bt223.2.2.2⟩ : S29), (⟨bt229.1, bt229.2.1, bt229.2.2.1, bt229.2.2.2⟩ : S29)] : List (S29)) : List (S29))).bind fun y235 => ((num_Holds.f kj15 3 y235 ([] : List (S34)) ([] : List Int) ([] : List Int)).bind fun t238 => (if (t238 == (t215 == (wrap64 (a0)))) = true then ((num_Holds.f kj15 2 y235 ([] : List (S34)) ([] : List Int) ([] : List Int)).bind fun t239 => (if (t239 == (t216 != (wrap64 (a0)))) = true then ((num_Holds.f kj15 4 y235 ([] : List (S34)) ([] : List Int) ([] : List Int)).bind fun t240 => (if (t240 == (t215 == t216)) = true then (some true) else (some false))) else (some false))) else (some false)))))) = some r := by rw [if_neg (show ¬ (false = true) by decide)] at H; exact H
                clear H
                have H := H1
                clear H1
                replace H := Option.bind_eq_some_iff.mp H
                obtain ⟨⟨t223, t224, t225, t226⟩, A450, H⟩ := H
                replace H : ((paroleref01_Num.f (wrap64 (a1))).bind fun bt229 => ((some (([(⟨t223, t224, t225, t226⟩ : S29), (⟨bt229.1, bt229.2.1, bt229.2.2.1, bt229.2.2.2⟩ : S29)] : List (S29)) : List (S29))).bind fun y235 => ((num_Holds.f kj15 3 y235 ([] : List (S34)) ([] : List Int) ([] : List Int)).bind fun t238 => (if (t238 == (t215 == (wrap64 (a0)))) = true then ((num_Holds.f kj15 2 y235 ([] : List (S34)) ([] : List Int) ([] : List Int)).bind fun t239 => (if (t239 == (t216 != (wrap64 (a0)))) = true then ((num_Holds.f kj15 4 y235 ([] : List (S34)) ([] : List Int) ([] : List Int)).bind fun t240 => (if (t240 == (t215 == t216)) = true then (some true) else (some false))) else (some false))) else (some false))))) = some r := H
                have A45 := Aside0.mk A450
                clear A450
                replace H := Option.bind_eq_some_iff.mp H
                obtain ⟨⟨t229, t230, t231, t232⟩, A460, H⟩ := H
                replace H : ((some (([(⟨t223, t224, t225, t226⟩ : S29), (⟨t229, t230, t231, t232⟩ : S29)] : List (S29)) : List (S29))).bind fun y235 => ((num_Holds.f kj15 3 y235 ([] : List (S34)) ([] : List Int) ([] : List Int)).bind fun t238 => (if (t238 == (t215 == (wrap64 (a0)))) = true then ((num_Holds.f kj15 2 y235 ([] : List (S34)) ([] : List Int) ([] : List Int)).bind fun t239 => (if (t239 == (t216 != (wrap64 (a0)))) = true then ((num_Holds.f kj15 4 y235 ([] : List (S34)) ([] : List Int) ([] : List Int)).bind fun t240 => (if (t240 == (t215 == t216)) = true then (some true) else (some false))) else (some false))) else (some false)))) = some r := H
                have A46 := Aside0.mk A460
                clear A460
                obtain ⟨y235, hy235⟩ : ∃ y_ : List (S29), y_ = (([(⟨t223, t224, t225, t226⟩ : S29), (⟨t229, t230, t231, t232⟩ : S29)] : List (S29))) := ⟨_, rfl⟩
                replace H : ((num_Holds.f kj15 3 y235 ([] : List (S34)) ([] : List Int) ([] : List Int)).bind fun t238 => (if (t238 == (t215 == (wrap64 (a0)))) = true then ((num_Holds.f kj15 2 y235 ([] : List (S34)) ([] : List Int) ([] : List Int)).bind fun t239 => (if (t239 == (t216 != (wrap64 (a0)))) = true then ((num_Holds.f kj15 4 y235 ([] : List (S34)) ([] : List Int) ([] : List Int)).bind fun t240 => (if (t240 == (t215 == t216)) = true then (some true) else (some false))) else (some false))) else (some false))) = some r := by first | (rw [hy235]; with_reducible exact H) | (have H2_ := (Option.bind_some _ _).symm.trans H; rw [hy235]; with_reducible exact H2_) | (have H2_ := (Option.bind_some _ _).symm.trans H; with_reducible exact H2_) | with_reducible exact H | (rw [hy235]; exact H) | exact H
                have Ny235 := Aside0.mk hy235
                clear hy235
                replace H := Option.bind_eq_some_iff.mp H
                obtain ⟨t238, A470, H⟩ := H
                replace H : (if (t238 == (t215 == (wrap64 (a0)))) = true then ((num_Holds.f kj15 2 y235 ([] : List (S34)) ([] : List Int) ([] : List Int)).bind fun t239 => (if (t239 == (t216 != (wrap64 (a0)))) = true then ((num_Holds.f kj15 4 y235 ([] : List (S34)) ([] : List Int) ([] : List Int)).bind fun t240 => (if (t240 == (t215 == t216)) = true then (some true) else (some false))) else (some false))) else (some false)) = some r := H
                have A47 := Aside0.mk A470
                clear A470
                by_cases c48 : (t238 == (t215 == (wrap64 (a0)))) = true
                · rw [if_pos c48] at H
                  have c48b0 : (t238 == (t215 == (wrap64 (a0)))) = true := c48
                  (try (have c48b1 : decide (t238 = (t215 == (wrap64 (a0)))) = true := by simpa using c48))
                  (try (have c48b2 : (t238 == (t215 == (wrap64 (a0)))) = true := by simpa using c48))
                  clear c48
                  replace H := Option.bind_eq_some_iff.mp H
                  obtain ⟨t239, A490, H⟩ := H
                  replace H : (if (t239 == (t216 != (wrap64 (a0)))) = true then ((num_Holds.f kj15 4 y235 ([] : List (S34)) ([] : List Int) ([] : List Int)).bind fun t240 => (if (t240 == (t215 == t216)) = true then (some true) else (some false))) else (some false)) = some r := H
                  have A49 := Aside0.mk A490
                  clear A490
                  by_cases c50 : (t239 == (t216 != (wrap64 (a0)))) = true
                  · rw [if_pos c50] at H
                    have c50b0 : (t239 == (t216 != (wrap64 (a0)))) = true := c50
                    (try (have c50b1 : decide (t239 = (t216 != (wrap64 (a0)))) = true := by simpa using c50))
                    (try (have c50b2 : (t239 == (t216 != (wrap64 (a0)))) = true := by simpa using c50))
                    clear c50
                    replace H := Option.bind_eq_some_iff.mp H
                    obtain ⟨t240, A510, H⟩ := H
                    replace H : (if (t240 == (t215 == t216)) = true then (some true) else (some false)) = some r := H
                    have A51 := Aside0.mk A510
                    clear A510
                    by_cases c52 : (t240 == (t215 == t216)) = true
                    · rw [if_pos c52] at H
                      have c52b0 : (t240 == (t215 == t216)) = true := c52
                      (try (have c52b1 : decide (t240 = (t215 == t216)) = true := by simpa using c52))
                      (try (have c52b2 : (t240 == (t215 == t216)) = true := by simpa using c52))
                      clear c52
                      obtain rfl := Option.some.inj H
                      go_wp2_with (first | ((with_reducible refine gate_callee (f := 13) rfl ?_); refine goesL_ (some 82) rfl rfl Try.func13 (by kernel_rfl) rfl #[.int .i64 (wrap64 (a0))] rfl (by (try simp only [List.map_toArray, List.map_cons, List.map_nil]); first | done | rfl | (simp only [List.length_drop, List.length_take]; rfl)) ?_; (with_reducible refine (paroleref01_Num.calls (wrap64 (a0)) t223 t224 t225 t226 _ A45.out).mono ?_); rintro e w53 ⟨v227, rfl, ho0, hb⟩; refine ⟨_, rfl, ?_⟩; have n0_ := Aside0.mk (Kd.N_lower (Kd.N_mono (ok' := fun k_ => True) (Kd.R_N (Kd.R_bound ho0)) (fun k_ hk_ => trivial)) (below_size (by repeat (first | (with_reducible first | exact HB.out | apply below_alloc | apply pw_below_drewN | apply below_drew1) | exact HB.out)))); have n1_ := Aside0.mk (below_step (by repeat (first | (with_reducible first | exact HB.out | apply below_alloc | apply pw_below_drewN | apply below_drew1) | exact HB.out)) hb); clear HB; have HO228 := n0_; have HB := n1_; clear n0_ n1_; (try clear hb); (try clear hb2); (try clear hk); (try clear hi); (try clear ho0)) | ((with_reducible refine gate_callee (f := 13) rfl ?_); refine goesL_ (some 84) rfl rfl Try.func13 (by kernel_rfl) rfl #[.int .i64 (wrap64 (a1))] rfl (by (try simp only [List.map_toArray, List.map_cons, List.map_nil]); first | done | rfl | (simp only [List.length_drop, List.length_take]; rfl)) ?_; (with_reducible refine (paroleref01_Num.calls (wrap64 (a1)) t229 t230 t231 t232 _ A46.out).mono ?_); rintro e w54 ⟨v233, rfl, ho0, hb⟩; refine ⟨_, rfl, ?_⟩; have n0_ := Aside0.mk (Kd.N_elder' (by (with_reducible repeat (first | apply Kd.N_alloc | apply Kd.N_drewN | apply Kd.N_drew)); exact HO228.out) (Kd.R_base ho0) hb); have n1_ := Aside0.mk (Kd.N_lower (Kd.N_mono (ok' := fun k_ => some k_ ≠ (v227 : Value).ownBlock) (Kd.R_N (Kd.R_bound ho0)) (fun k_ hk_ => (Kd.fresh' (Kd.N_lt (by (with_reducible repeat (first | apply Kd.N_alloc | apply Kd.N_drewN | apply Kd.N_drew)); exact HO228.out)) k_ hk_.2.1))) (below_size (by repeat (first | (with_reducible first | exact HB.out | apply below_alloc | apply pw_below_drewN | apply below_drew1) | exact HB.out)))); have n2_ := Aside0.mk (below_step (by repeat (first | (with_reducible first | exact HB.out | apply below_alloc | apply pw_below_drewN | apply below_drew1) | exact HB.out)) hb); clear HO228; clear HB; have HO228 := n0_; have HO234 := n1_; have HB := n2_; clear n0_ n1_ n2_; (try clear hb); (try clear hb2); (try clear hk); (try clear hi); (try clear ho0); obtain ⟨Ao55, co55, eo55⟩ := Kd.N_slice HO228.out; subst eo55; obtain ⟨Ao56, co56, eo56⟩ := Kd.N_slice HO234.out; subst eo56) | ((with_reducible refine gate_dst (N := 85) rfl ?_); refine Kd.N_lit k29 _ 29 ?hg (N' := 85) ?hd (xs := ([(⟨t223, t224, t225, t226⟩ : S29), (⟨t229, t230, t231, t232⟩ : S29)] : List (S29))) (inner := [.int .i64 t223, .int .i64 t224, .int .i64 t225, .slice Ao55 t226.length co55, .int .i64 t229, .int .i64 t230, .int .i64 t231, .slice Ao56 t232.length co56]) (ok := (fun _ => True)) (okp := (fun _ => True)) ?hr ?hp (fun _ hk => hk) ((show ∀ k_, w54.heap.size ≤ k_ → (fun _ => True) k_ from fun k_ hk => trivial) _ (Nat.le_refl _)) (Below.refl _ _) (Nat.le_refl _) (by simp) ?_; (case hd => rfl); (case hg => rfl); (case hr => first | (go_simp; done) | (go_simp; rfl)); (case hp => exact (Reps.c4 (show Kd.FK k29 _ _ (⟨t223, t224, t225, t226⟩ : S29) [.int .i64 t223, .int .i64 t224, .int .i64 t225, .slice Ao55 t226.length co55] from (k29_mkF _ _ (⟨t223, t224, t225, t226⟩ : S29) (Kd.N_reads' (Kd.N_mono (ok' := (fun _ => True)) (HO228.out) (fun k_ hk => trivial))).2.1 (Kd.N_F (Kd.N_mono (ok' := (fun _ => True)) (HO228.out) (fun k_ hk => trivial))))) (Reps.c4 (show Kd.FK k29 _ _ (⟨t229, t230, t231, t232⟩ : S29) [.int .i64 t229, .int .i64 t230, .int .i64 t231, .slice Ao56 t232.length co56] from (k29_mkF _ _ (⟨t229, t230, t231, t232⟩ : S29) (Kd.N_reads' (Kd.N_mono (ok' := (fun _ => True)) (HO234.out) (fun k_ hk => trivial))).2.1 (Kd.N_F (Kd.N_mono (ok' := (fun _ => True)) (HO234.out) (fun k_ hk => trivial))))) (Reps.none _ _)))); intro v236 w57 ho58 hb hg_ hnew_; clear hg_ hnew_; (first | rw [← Ny235.out] at ho58 | (simp only [Int.reduceToNat] at ho58; rw [← Ny235.out] at ho58)); have n0_ := Aside0.mk (Kd.N_lower ho58 (below_size (by repeat (first | (with_reducible first | exact HB.out | apply below_alloc | apply pw_below_drewN | apply below_drew1) | exact HB.out)))); have n1_ := Aside0.mk (below_step (by repeat (first | (with_reducible first | exact HB.out | apply below_alloc | apply pw_below_drewN | apply below_drew1) | exact HB.out)) hb); clear HB; clear HO228; clear HO234; have HO237 := n0_; have HB := n1_; clear n0_ n1_; clear hb ho58; obtain ⟨Ao59, co59, eo59⟩ := Kd.N_slice HO237.out; subst eo59) | ((with_reducible refine gate_callee (f := 14) rfl ?_); refine goesL_ (some 88) rfl rfl Try.func14 (by kernel_rfl) rfl #[.agg #[.int .i64 3, .slice Ao59 y235.length co59, .slice none 0 0], .slice none 0 0, .slice none 0 0] rfl (by (try simp only [List.map_toArray, List.map_cons, List.map_nil]); first | done | rfl | (simp only [List.length_drop, List.length_take]; rfl)) ?_; (refine (num_Holds.calls kj15 3 _ _ y235 _ _ ([] : List (S34)) _ _ ([] : List Int) _ _ ([] : List Int) t238 _ ?side1 ?side2 ?side3 ?side4 ?side5 ?side6 ?side7 ?side8 A47.out).mono ?_); (case side1 => repeat (first | exact (Kd.N_reads' HO237.out).2.2 | (with_reducible refine Kd.C_alloc ?_ _) | (with_reducible refine Kd.C_drewN ?_ _) | (with_reducible refine Kd.C_drew ?_))); (case side2 => exact (Kd.N_reads' HO237.out).2.1); (case side3 => exact Kd.C_nil _ _); (case side4 => exact Nat.le_refl _); (case side5 => exact Kd.C_nil _ _); (case side6 => exact Nat.le_refl _); (case side7 => exact Kd.C_nil _ _); (case side8 => exact Nat.le_refl _); rintro e w60 ⟨rfl, hb⟩; refine ⟨_, rfl, ?_⟩; have n0_ := Aside0.mk (Kd.N_below (by (with_reducible repeat (first | apply Kd.N_alloc | apply Kd.N_drewN | apply Kd.N_drew)); exact HO237.out) hb); have n1_ := Aside0.mk (below_step (by repeat (first | (with_reducible first | exact HB.out | apply below_alloc | apply pw_below_drewN | apply below_drew1) | exact HB.out)) hb); clear HO237; clear HB; have HO237 := n0_; have HB := n1_; clear n0_ n1_; (try clear hb); (try clear hb2); (try clear hk); (try clear hi)) | (go_at_call 14; (refine (num_Holds.calls kj15 2 _ _ y235 _ _ ([] : List (S34)) _ _ ([] : List Int) _ _ ([] : List Int) t239 _ ?side1 ?side2 ?side3 ?side4 ?side5 ?side6 ?side7 ?side8 A49.out).mono ?_); (case side1 => repeat (first | exact (Kd.N_reads' HO237.out).2.2 | (with_reducible refine Kd.C_alloc ?_ _) | (with_reducible refine Kd.C_drewN ?_ _) | (with_reducible refine Kd.C_drew ?_))); (case side2 => exact (Kd.N_reads' HO237.out).2.1); (case side3 => exact Kd.C_nil _ _); (case side4 => exact Nat.le_refl _); (case side5 => exact Kd.C_nil _ _); (case side6 => exact Nat.le_refl _); (case side7 => exact Kd.C_nil _ _); (case side8 => exact Nat.le_refl _); rintro e w61 ⟨rfl, hb⟩; have n0_ := Aside0.mk (Kd.N_below (by (with_reducible repeat (first | apply Kd.N_alloc | apply Kd.N_drewN | apply Kd.N_drew)); exact HO237.out) hb); have n1_ := Aside0.mk (below_step (by repeat (first | (with_reducible first | exact HB.out | apply below_alloc | apply pw_below_drewN | apply below_drew1) | exact HB.out)) hb); clear HO237; clear HB; have HO237 := n0_; have HB := n1_; clear n0_ n1_; (try clear hb); (try clear hb2); (try clear hk); (try clear hi)) | (go_at_call 14; (refine (num_Holds.calls kj15 4 _ _ y235 _ _ ([] : List (S34)) _ _ ([] : List Int) _ _ ([] : List Int) t240 _ ?side1 ?side2 ?side3 ?side4 ?side5 ?side6 ?side7 ?side8 A51.out).mono ?_); (case side1 => repeat (first | exact (Kd.N_reads' HO237.out).2.2 | (with_reducible refine Kd.C_alloc ?_ _) | (with_reducible refine Kd.C_drewN ?_ _) | (with_reducible refine Kd.C_drew ?_))); (case side2 => exact (Kd.N_reads' HO237.out).2.1); (case side3 => exact Kd.C_nil _ _); (case side4 => exact Nat.le_refl _); (case side5 => exact Kd.C_nil _ _); (case side6 => exact Nat.le_refl _); (case side7 => exact Kd.C_nil _ _); (case side8 => exact Nat.le_refl _); rintro e w62 ⟨rfl, hb⟩; have n0_ := Aside0.mk (Kd.N_below (by (with_reducible repeat (first | apply Kd.N_alloc | apply Kd.N_drewN | apply Kd.N_drew)); exact HO237.out) hb); have n1_ := Aside0.mk (below_step (by repeat (first | (with_reducible first | exact HB.out | apply below_alloc | apply pw_below_drewN | apply below_drew1) | exact HB.out)) hb); clear HO237; clear HB; have HO237 := n0_; have HB := n1_; clear n0_ n1_; (try clear hb); (try clear hb2); (try clear hk); (try clear hi)))
                      go_ret
                      exact ⟨by first | rfl | (simp [errW_none, errW_some] <;> rfl) | (simp [*, errW_none, errW_some] <;> rfl), by repeat (first | (with_reducible first | exact HB.out | apply below_alloc | apply pw_below_drewN | apply below_drew1) | exact HB.out)⟩
                    · rw [if_neg c52] at H
                      have c52b0 : (t240 == (t215 == t216)) = false := by simpa using c52
                      (try (have c52b1 : decide (t240 = (t215 == t216)) = false := by simpa using c52))
                      (try (have c52b2 : (t240 == (t215 == t216)) = false := by simpa using c52))
                      (try (have c52b3 : ¬ (t240 = (t215 == t216)) := by simpa using c52))
                      clear c52
                      obtain rfl := Option.some.inj H
                      go_wp2_with (first | ((with_reducible refine gate_callee (f := 13) rfl ?_); refine goesL_ (some 82) rfl rfl Try.func13 (by kernel_rfl) rfl #[.int .i64 (wrap64 (a0))] rfl (by (try simp only [List.map_toArray, List.map_cons, List.map_nil]); first | done | rfl | (simp only [List.length_drop, List.length_take]; rfl)) ?_; (with_reducible refine (paroleref01_Num.calls (wrap64 (a0)) t223 t224 t225 t226 _ A45.out).mono ?_); rintro e w63 ⟨v227, rfl, ho0, hb⟩; refine ⟨_, rfl, ?_⟩; have n0_ := Aside0.mk (Kd.N_lower (Kd.N_mono (ok' := fun k_ => True) (Kd.R_N (Kd.R_bound ho0)) (fun k_ hk_ => trivial)) (below_size (by repeat (first | (with_reducible first | exact HB.out | apply below_alloc | apply pw_below_drewN | apply below_drew1) | exact HB.out)))); have n1_ := Aside0.mk (below_step (by repeat (first | (with_reducible first | exact HB.out | apply below_alloc | apply pw_below_drewN | apply below_drew1) | exact HB.out)) hb); clear HB; have HO228 := n0_; have HB := n1_; clear n0_ n1_; (try clear hb); (try clear hb2); (try clear hk); (try clear hi); (try clear ho0)) | ((with_reducible refine gate_callee (f := 13) rfl ?_); refine goesL_ (some 84) rfl rfl Try.func13 (by kernel_rfl) rfl #[.int .i64 (wrap64 (a1))] rfl (by (try simp only [List.map_toArray, List.map_cons, List.map_nil]); first | done | rfl | (simp only [List.length_drop, List.length_take]; rfl)) ?_; (with_reducible refine (paroleref01_Num.calls (wrap64 (a1)) t229 t230 t231 t232 _ A46.out).mono ?_); rintro e w64 ⟨v233, rfl, ho0, hb⟩; refine ⟨_, rfl, ?_⟩; have n0_ := Aside0.mk (Kd.N_elder' (by (with_reducible repeat (first | apply Kd.N_alloc | apply Kd.N_drewN | apply Kd.N_drew)); exact HO228.out) (Kd.R_base ho0) hb); have n1_ := Aside0.mk (Kd.N_lower (Kd.N_mono (ok' := fun k_ => some k_ ≠ (v227 : Value).ownBlock) (Kd.R_N (Kd.R_bound ho0)) (fun k_ hk_ => (Kd.fresh' (Kd.N_lt (by (with_reducible repeat (first | apply Kd.N_alloc | apply Kd.N_drewN | apply Kd.N_drew)); exact HO228.out)) k_ hk_.2.1))) (below_size (by repeat (first | (with_reducible first | exact HB.out | apply below_alloc | apply pw_below_drewN | apply below_drew1) | exact HB.out)))); have n2_ := Aside0.mk (below_step (by repeat (first | (with_reducible first | exact HB.out | apply below_alloc | apply pw_below_drewN | apply below_drew1) | exact HB.out)) hb); clear HO228; clear HB; have HO228 := n0_; have HO234 := n1_; have HB := n2_; clear n0_ n1_ n2_; (try clear hb); (try clear hb2); (try clear hk); (try clear hi); (try clear ho0); obtain ⟨Ao65, co65, eo65⟩ := Kd.N_slice HO228.out; subst eo65; obtain ⟨Ao66, co66, eo66⟩ := Kd.N_slice HO234.out; subst eo66) | ((with_reducible refine gate_dst (N := 85) rfl ?_); refine Kd.N_lit k29 _ 29 ?hg (N' := 85) ?hd (xs := ([(⟨t223, t224, t225, t226⟩ : S29), (⟨t229, t230, t231, t232⟩ : S29)] : List (S29))) (inner := [.int .i64 t223, .int .i64 t224, .int .i64 t225, .slice Ao65 t226.length co65, .int .i64 t229, .int .i64 t230, .int .i64 t231, .slice Ao66 t232.length co66]) (ok := (fun _ => True)) (okp := (fun _ => True)) ?hr ?hp (fun _ hk => hk) ((show ∀ k_, w64.heap.size ≤ k_ → (fun _ => True) k_ from fun k_ hk => trivial) _ (Nat.le_refl _)) (Below.refl _ _) (Nat.le_refl _) (by simp) ?_; (case hd => rfl); (case hg => rfl); (case hr => first | (go_simp; done) | (go_simp; rfl)); (case hp => exact (Reps.c4 (show Kd.FK k29 _ _ (⟨t223, t224, t225, t226⟩ : S29) [.int .i64 t223, .int .i64 t224, .int .i64 t225, .slice Ao65 t226.length co65] from (k29_mkF _ _ (⟨t223, t224, t225, t226⟩ : S29) (Kd.N_reads' (Kd.N_mono (ok' := (fun _ => True)) (HO228.out) (fun k_ hk => trivial))).2.1 (Kd.N_F (Kd.N_mono (ok' := (fun _ => True)) (HO228.out) (fun k_ hk => trivial))))) (Reps.c4 (show Kd.FK k29 _ _ (⟨t229, t230, t231, t232⟩ : S29) [.int .i64 t229, .int .i64 t230, .int .i64 t231, .slice Ao66 t232.length co66] from (k29_mkF _ _ (⟨t229, t230, t231, t232⟩ : S29) (Kd.N_reads' (Kd.N_mono (ok' := (fun _ => True)) (HO234.out) (fun k_ hk => trivial))).2.1 (Kd.N_F (Kd.N_mono (ok' := (fun _ => True)) (HO234.out) (fun k_ hk => trivial))))) (Reps.none _ _)))); intro v236 w67 ho68 hb hg_ hnew_; clear hg_ hnew_; (first | rw [← Ny235.out] at ho68 | (simp only [Int.reduceToNat] at ho68; rw [← Ny235.out] at ho68)); have n0_ := Aside0.mk (Kd.N_lower ho68 (below_size (by repeat (first | (with_reducible first | exact HB.out | apply below_alloc | apply pw_below_drewN | apply below_drew1) | exact HB.out)))); have n1_ := Aside0.mk (below_step (by repeat (first | (with_reducible first | exact HB.out | apply below_alloc | apply pw_below_drewN | apply below_drew1) | exact HB.out)) hb); clear HB; clear HO228; clear HO234; have HO237 := n0_; have HB := n1_; clear n0_ n1_; clear hb ho68; obtain ⟨Ao69, co69, eo69⟩ := Kd.N_slice HO237.out; subst eo69) | ((with_reducible refine gate_callee (f := 14) rfl ?_); refine goesL_ (some 88) rfl rfl Try.func14 (by kernel_rfl) rfl #[.agg #[.int .i64 3, .slice Ao69 y235.length co69, .slice none 0 0], .slice none 0 0, .slice none 0 0] rfl (by (try simp only [List.map_toArray, List.map_cons, List.map_nil]); first | done | rfl | (simp only [List.length_drop, List.length_take]; rfl)) ?_; (refine (num_Holds.calls kj15 3 _ _ y235 _ _ ([] : List (S34)) _ _ ([] : List Int) _ _ ([] : List Int) t238 _ ?side1 ?side2 ?side3 ?side4 ?side5 ?side6 ?side7 ?side8 A47.out).mono ?_); (case side1 => repeat (first | exact (Kd.N_reads' HO237.out).2.2 | (with_reducible refine Kd.C_alloc ?_ _) | (with_reducible refine Kd.C_drewN ?_ _) | (with_reducible refine Kd.C_drew ?_))); (case side2 => exact (Kd.N_reads' HO237.out).2.1); (case side3 => exact Kd.C_nil _ _); (case side4 => exact Nat.le_refl _); (case side5 => exact Kd.C_nil _ _); (case side6 => exact Nat.le_refl _); (case side7 => exact Kd.C_nil _ _); (case side8 => exact Nat.le_refl _); rintro e w70 ⟨rfl, hb⟩; refine ⟨_, rfl, ?_⟩; have n0_ := Aside0.mk (Kd.N_below (by (with_reducible repeat (first | apply Kd.N_alloc | apply Kd.N_drewN | apply Kd.N_drew)); exact HO237.out) hb); have n1_ := Aside0.mk (below_step (by repeat (first | (with_reducible first | exact HB.out | apply below_alloc | apply pw_below_drewN | apply below_drew1) | exact HB.out)) hb); clear HO237; clear HB; have HO237 := n0_; have HB := n1_; clear n0_ n1_; (try clear hb); (try clear hb2); (try clear hk); (try clear hi)) | (go_at_call 14; (refine (num_Holds.calls kj15 2 _ _ y235 _ _ ([] : List (S34)) _ _ ([] : List Int) _ _ ([] : List Int) t239 _ ?side1 ?side2 ?side3 ?side4 ?side5 ?side6 ?side7 ?side8 A49.out).mono ?_); (case side1 => repeat (first | exact (Kd.N_reads' HO237.out).2.2 | (with_reducible refine Kd.C_alloc ?_ _) | (with_reducible refine Kd.C_drewN ?_ _) | (with_reducible refine Kd.C_drew ?_))); (case side2 => exact (Kd.N_reads' HO237.out).2.1); (case side3 => exact Kd.C_nil _ _); (case side4 => exact Nat.le_refl _); (case side5 => exact Kd.C_nil _ _); (case side6 => exact Nat.le_refl _); (case side7 => exact Kd.C_nil _ _); (case side8 => exact Nat.le_refl _); rintro e w71 ⟨rfl, hb⟩; have n0_ := Aside0.mk (Kd.N_below (by (with_reducible repeat (first | apply Kd.N_alloc | apply Kd.N_drewN | apply Kd.N_drew)); exact HO237.out) hb); have n1_ := Aside0.mk (below_step (by repeat (first | (with_reducible first | exact HB.out | apply below_alloc | apply pw_below_drewN | apply below_drew1) | exact HB.out)) hb); clear HO237; clear HB; have HO237 := n0_; have HB := n1_; clear n0_ n1_; (try clear hb); (try clear hb2); (try clear hk); (try clear hi)) | (go_at_call 14; (refine (num_Holds.calls kj15 4 _ _ y235 _ _ ([] : List (S34)) _ _ ([] : List Int) _ _ ([] : List Int) t240 _ ?side1 ?side2 ?side3 ?side4 ?side5 ?side6 ?side7 ?side8 A51.out).mono ?_); (case side1 => repeat (first | exact (Kd.N_reads' HO237.out).2.2 | (with_reducible refine Kd.C_alloc ?_ _) | (with_reducible refine Kd.C_drewN ?_ _) | (with_reducible refine Kd.C_drew ?_))); (case side2 => exact (Kd.N_reads' HO237.out).2.1); (case side3 => exact Kd.C_nil _ _); (case side4 => exact Nat.le_refl _); (case side5 => exact Kd.C_nil _ _); (case side6 => exact Nat.le_refl _); (case side7 => exact Kd.C_nil _ _); (case side8 => exact Nat.le_refl _); rintro e w72 ⟨rfl, hb⟩; have n0_ := Aside0.mk (Kd.N_below (by (with_reducible repeat (first | apply Kd.N_alloc | apply Kd.N_drewN | apply Kd.N_drew)); exact HO237.out) hb); have n1_ := Aside0.mk (below_step (by repeat (first | (with_reducible first | exact HB.out | apply below_alloc | apply pw_below_drewN | apply below_drew1) | exact HB.out)) hb); clear HO237; clear HB; have HO237 := n0_; have HB := n1_; clear n0_ n1_; (try clear hb); (try clear hb2); (try clear hk); (try clear hi)))
                      go_ret
                      exact ⟨by first | rfl | (simp [errW_none, errW_some] <;> rfl) | (simp [*, errW_none, errW_some] <;> rfl), by repeat (first | (with_reducible first | exact HB.out | apply below_alloc | apply pw_below_drewN | apply below_drew1) | exact HB.out)⟩
                  · rw [if_neg c50] at H
                    have c50b0 : (t239 == (t216 != (wrap64 (a0)))) = false := by simpa using c50
                    (try (have c50b1 : decide (t239 = (t216 != (wrap64 (a0)))) = false := by simpa using c50))
                    (try (have c50b2 : (t239 == (t216 != (wrap64 (a0)))) = false := by simpa using c50))
                    (try (have c50b3 : ¬ (t239 = (t216 != (wrap64 (a0)))) := by simpa using c50))
                    clear c50
                    obtain rfl := Option.some.inj H
                    go_wp2_with (first | ((with_reducible refine gate_callee (f := 13) rfl ?_); refine goesL_ (some 82) rfl rfl Try.func13 (by kernel_rfl) rfl #[.int .i64 (wrap64 (a0))] rfl (by (try simp only [List.map_toArray, List.map_cons, List.map_nil]); first | done | rfl | (simp only [List.length_drop, List.length_take]; rfl)) ?_; (with_reducible refine (paroleref01_Num.calls (wrap64 (a0)) t223 t224 t225 t226 _ A45.out).mono ?_); rintro e w73 ⟨v227, rfl, ho0, hb⟩; refine ⟨_, rfl, ?_⟩; have n0_ := Aside0.mk (Kd.N_lower (Kd.N_mono (ok' := fun k_ => True) (Kd.R_N (Kd.R_bound ho0)) (fun k_ hk_ => trivial)) (below_size (by repeat (first | (with_reducible first | exact HB.out | apply below_alloc | apply pw_below_drewN | apply below_drew1) | exact HB.out)))); have n1_ := Aside0.mk (below_step (by repeat (first | (with_reducible first | exact HB.out | apply below_alloc | apply pw_below_drewN | apply below_drew1) | exact HB.out)) hb); clear HB; have HO228 := n0_; have HB := n1_; clear n0_ n1_; (try clear hb); (try clear hb2); (try clear hk); (try clear hi); (try clear ho0)) | ((with_reducible refine gate_callee (f := 13) rfl ?_); refine goesL_ (some 84) rfl rfl Try.func13 (by kernel_rfl) rfl #[.int .i64 (wrap64 (a1))] rfl (by (try simp only [List.map_toArray, List.map_cons, List.map_nil]); first | done | rfl | (simp only [List.length_drop, List.length_take]; rfl)) ?_; (with_reducible refine (paroleref01_Num.calls (wrap64 (a1)) t229 t230 t231 t232 _ A46.out).mono ?_); rintro e w74 ⟨v233, rfl, ho0, hb⟩; refine ⟨_, rfl, ?_⟩; have n0_ := Aside0.mk (Kd.N_elder' (by (with_reducible repeat (first | apply Kd.N_alloc | apply Kd.N_drewN | apply Kd.N_drew)); exact HO228.out) (Kd.R_base ho0) hb); have n1_ := Aside0.mk (Kd.N_lower (Kd.N_mono (ok' := fun k_ => some k_ ≠ (v227 : Value).ownBlock) (Kd.R_N (Kd.R_bound ho0)) (fun k_ hk_ => (Kd.fresh' (Kd.N_lt (by (with_reducible repeat (first | apply Kd.N_alloc | apply Kd.N_drewN | apply Kd.N_drew)); exact HO228.out)) k_ hk_.2.1))) (below_size (by repeat (first | (with_reducible first | exact HB.out | apply below_alloc | apply pw_below_drewN | apply below_drew1) | exact HB.out)))); have n2_ := Aside0.mk (below_step (by repeat (first | (with_reducible first | exact HB.out | apply below_alloc | apply pw_below_drewN | apply below_drew1) | exact HB.out)) hb); clear HO228; clear HB; have HO228 := n0_; have HO234 := n1_; have HB := n2_; clear n0_ n1_ n2_; (try clear hb); (try clear hb2); (try clear hk); (try clear hi); (try clear ho0); obtain ⟨Ao75, co75, eo75⟩ := Kd.N_slice HO228.out; subst eo75; obtain ⟨Ao76, co76, eo76⟩ := Kd.N_slice HO234.out; subst eo76) | ((with_reducible refine gate_dst (N := 85) rfl ?_); refine Kd.N_lit k29 _ 29 ?hg (N' := 85) ?hd (xs := ([(⟨t223, t224, t225, t226⟩ : S29), (⟨t229, t230, t231, t232⟩ : S29)] : List (S29))) (inner := [.int .i64 t223, .int .i64 t224, .int .i64 t225, .slice Ao75 t226.length co75, .int .i64 t229, .int .i64 t230, .int .i64 t231, .slice Ao76 t232.length co76]) (ok := (fun _ => True)) (okp := (fun _ => True)) ?hr ?hp (fun _ hk => hk) ((show ∀ k_, w74.heap.size ≤ k_ → (fun _ => True) k_ from fun k_ hk => trivial) _ (Nat.le_refl _)) (Below.refl _ _) (Nat.le_refl _) (by simp) ?_; (case hd => rfl); (case hg => rfl); (case hr => first | (go_simp; done) | (go_simp; rfl)); (case hp => exact (Reps.c4 (show Kd.FK k29 _ _ (⟨t223, t224, t225, t226⟩ : S29) [.int .i64 t223, .int .i64 t224, .int .i64 t225, .slice Ao75 t226.length co75] from (k29_mkF _ _ (⟨t223, t224, t225, t226⟩ : S29) (Kd.N_reads' (Kd.N_mono (ok' := (fun _ => True)) (HO228.out) (fun k_ hk => trivial))).2.1 (Kd.N_F (Kd.N_mono (ok' := (fun _ => True)) (HO228.out) (fun k_ hk => trivial))))) (Reps.c4 (show Kd.FK k29 _ _ (⟨t229, t230, t231, t232⟩ : S29) [.int .i64 t229, .int .i64 t230, .int .i64 t231, .slice Ao76 t232.length co76] from (k29_mkF _ _ (⟨t229, t230, t231, t232⟩ : S29) (Kd.N_reads' (Kd.N_mono (ok' := (fun _ => True)) (HO234.out) (fun k_ hk => trivial))).2.1 (Kd.N_F (Kd.N_mono (ok' := (fun _ => True)) (HO234.out) (fun k_ hk => trivial))))) (Reps.none _ _)))); intro v236 w77 ho78 hb hg_ hnew_; clear hg_ hnew_; (first | rw [← Ny235.out] at ho78 | (simp only [Int.reduceToNat] at ho78; rw [← Ny235.out] at ho78)); have n0_ := Aside0.mk (Kd.N_lower ho78 (below_size (by repeat (first | (with_reducible first | exact HB.out | apply below_alloc | apply pw_below_drewN | apply below_drew1) | exact HB.out)))); have n1_ := Aside0.mk (below_step (by repeat (first | (with_reducible first | exact HB.out | apply below_alloc | apply pw_below_drewN | apply below_drew1) | exact HB.out)) hb); clear HB; clear HO228; clear HO234; have HO237 := n0_; have HB := n1_; clear n0_ n1_; clear hb ho78; obtain ⟨Ao79, co79, eo79⟩ := Kd.N_slice HO237.out; subst eo79) | ((with_reducible refine gate_callee (f := 14) rfl ?_); refine goesL_ (some 88) rfl rfl Try.func14 (by kernel_rfl) rfl #[.agg #[.int .i64 3, .slice Ao79 y235.length co79, .slice none 0 0], .slice none 0 0, .slice none 0 0] rfl (by (try simp only [List.map_toArray, List.map_cons, List.map_nil]); first | done | rfl | (simp only [List.length_drop, List.length_take]; rfl)) ?_; (refine (num_Holds.calls kj15 3 _ _ y235 _ _ ([] : List (S34)) _ _ ([] : List Int) _ _ ([] : List Int) t238 _ ?side1 ?side2 ?side3 ?side4 ?side5 ?side6 ?side7 ?side8 A47.out).mono ?_); (case side1 => repeat (first | exact (Kd.N_reads' HO237.out).2.2 | (with_reducible refine Kd.C_alloc ?_ _) | (with_reducible refine Kd.C_drewN ?_ _) | (with_reducible refine Kd.C_drew ?_))); (case side2 => exact (Kd.N_reads' HO237.out).2.1); (case side3 => exact Kd.C_nil _ _); (case side4 => exact Nat.le_refl _); (case side5 => exact Kd.C_nil _ _); (case side6 => exact Nat.le_refl _); (case side7 => exact Kd.C_nil _ _); (case side8 => exact Nat.le_refl _); rintro e w80 ⟨rfl, hb⟩; refine ⟨_, rfl, ?_⟩; have n0_ := Aside0.mk (Kd.N_below (by (with_reducible repeat (first | apply Kd.N_alloc | apply Kd.N_drewN | apply Kd.N_drew)); exact HO237.out) hb); have n1_ := Aside0.mk (below_step (by repeat (first | (with_reducible first | exact HB.out | apply below_alloc | apply pw_below_drewN | apply below_drew1) | exact HB.out)) hb); clear HO237; clear HB; have HO237 := n0_; have HB := n1_; clear n0_ n1_; (try clear hb); (try clear hb2); (try clear hk); (try clear hi)) | (go_at_call 14; (refine (num_Holds.calls kj15 2 _ _ y235 _ _ ([] : List (S34)) _ _ ([] : List Int) _ _ ([] : List Int) t239 _ ?side1 ?side2 ?side3 ?side4 ?side5 ?side6 ?side7 ?side8 A49.out).mono ?_); (case side1 => repeat (first | exact (Kd.N_reads' HO237.out).2.2 | (with_reducible refine Kd.C_alloc ?_ _) | (with_reducible refine Kd.C_drewN ?_ _) | (with_reducible refine Kd.C_drew ?_))); (case side2 => exact (Kd.N_reads' HO237.out).2.1); (case side3 => exact Kd.C_nil _ _); (case side4 => exact Nat.le_refl _); (case side5 => exact Kd.C_nil _ _); (case side6 => exact Nat.le_refl _); (case side7 => exact Kd.C_nil _ _); (case side8 => exact Nat.le_refl _); rintro e w81 ⟨rfl, hb⟩; have n0_ := Aside0.mk (Kd.N_below (by (with_reducible repeat (first | apply Kd.N_alloc | apply Kd.N_drewN | apply Kd.N_drew)); exact HO237.out) hb); have n1_ := Aside0.mk (below_step (by repeat (first | (with_reducible first | exact HB.out | apply below_alloc | apply pw_below_drewN | apply below_drew1) | exact HB.out)) hb); clear HO237; clear HB; have HO237 := n0_; have HB := n1_; clear n0_ n1_; (try clear hb); (try clear hb2); (try clear hk); (try clear hi)))
                    go_ret
                    exact ⟨by first | rfl | (simp [errW_none, errW_some] <;> rfl) | (simp [*, errW_none, errW_some] <;> rfl), by repeat (first | (with_reducible first | exact HB.out | apply below_alloc | apply pw_below_drewN | apply below_drew1) | exact HB.out)⟩
                · rw [if_neg c48] at H
                  have c48b0 : (t238 == (t215 == (wrap64 (a0)))) = false := by simpa using c48
                  (try (have c48b1 : decide (t238 = (t215 == (wrap64 (a0)))) = false := by simpa using c48))
                  (try (have c48b2 : (t238 == (t215 == (wrap64 (a0)))) = false := by simpa using c48))
                  (try (have c48b3 : ¬ (t238 = (t215 == (wrap64 (a0)))) := by simpa using c48))
                  clear c48
                  obtain rfl := Option.some.inj H
                  go_wp2_with (first | ((with_reducible refine gate_callee (f := 13) rfl ?_); refine goesL_ (some 82) rfl rfl Try.func13 (by kernel_rfl) rfl #[.int .i64 (wrap64 (a0))] rfl (by (try simp only [List.map_toArray, List.map_cons, List.map_nil]); first | done | rfl | (simp only [List.length_drop, List.length_take]; rfl)) ?_; (with_reducible refine (paroleref01_Num.calls (wrap64 (a0)) t223 t224 t225 t226 _ A45.out).mono ?_); rintro e w82 ⟨v227, rfl, ho0, hb⟩; refine ⟨_, rfl, ?_⟩; have n0_ := Aside0.mk (Kd.N_lower (Kd.N_mono (ok' := fun k_ => True) (Kd.R_N (Kd.R_bound ho0)) (fun k_ hk_ => trivial)) (below_size (by repeat (first | (with_reducible first | exact HB.out | apply below_alloc | apply pw_below_drewN | apply below_drew1) | exact HB.out)))); have n1_ := Aside0.mk (below_step (by repeat (first | (with_reducible first | exact HB.out | apply below_alloc | apply pw_below_drewN | apply below_drew1) | exact HB.out)) hb); clear HB; have HO228 := n0_; have HB := n1_; clear n0_ n1_; (try clear hb); (try clear hb2); (try clear hk); (try clear hi); (try clear ho0)) | ((with_reducible refine gate_callee (f := 13) rfl ?_); refine goesL_ (some 84) rfl rfl Try.func13 (by kernel_rfl) rfl #[.int .i64 (wrap64 (a1))] rfl (by (try simp only [List.map_toArray, List.map_cons, List.map_nil]); first | done | rfl | (simp only [List.length_drop, List.length_take]; rfl)) ?_; (with_reducible refine (paroleref01_Num.calls (wrap64 (a1)) t229 t230 t231 t232 _ A46.out).mono ?_); rintro e w83 ⟨v233, rfl, ho0, hb⟩; refine ⟨_, rfl, ?_⟩; have n0_ := Aside0.mk (Kd.N_elder' (by (with_reducible repeat (first | apply Kd.N_alloc | apply Kd.N_drewN | apply Kd.N_drew)); exact HO228.out) (Kd.R_base ho0) hb); have n1_ := Aside0.mk (Kd.N_lower (Kd.N_mono (ok' := fun k_ => some k_ ≠ (v227 : Value).ownBlock) (Kd.R_N (Kd.R_bound ho0)) (fun k_ hk_ => (Kd.fresh' (Kd.N_lt (by (with_reducible repeat (first | apply Kd.N_alloc | apply Kd.N_drewN | apply Kd.N_drew)); exact HO228.out)) k_ hk_.2.1))) (below_size (by repeat (first | (with_reducible first | exact HB.out | apply below_alloc | apply pw_below_drewN | apply below_drew1) | exact HB.out)))); have n2_ := Aside0.mk (below_step (by repeat (first | (with_reducible first | exact HB.out | apply below_alloc | apply pw_below_drewN | apply below_drew1) | exact HB.out)) hb); clear HO228; clear HB; have HO228 := n0_; have HO234 := n1_; have HB := n2_; clear n0_ n1_ n2_; (try clear hb); (try clear hb2); (try clear hk); (try clear hi); (try clear ho0); obtain ⟨Ao84, co84, eo84⟩ := Kd.N_slice HO228.out; subst eo84; obtain ⟨Ao85, co85, eo85⟩ := Kd.N_slice HO234.out; subst eo85) | ((with_reducible refine gate_dst (N := 85) rfl ?_); refine Kd.N_lit k29 _ 29 ?hg (N' := 85) ?hd (xs := ([(⟨t223, t224, t225, t226⟩ : S29), (⟨t229, t230, t231, t232⟩ : S29)] : List (S29))) (inner := [.int .i64 t223, .int .i64 t224, .int .i64 t225, .slice Ao84 t226.length co84, .int .i64 t229, .int .i64 t230, .int .i64 t231, .slice Ao85 t232.length co85]) (ok := (fun _ => True)) (okp := (fun _ => True)) ?hr ?hp (fun _ hk => hk) ((show ∀ k_, w83.heap.size ≤ k_ → (fun _ => True) k_ from fun k_ hk => trivial) _ (Nat.le_refl _)) (Below.refl _ _) (Nat.le_refl _) (by simp) ?_; (case hd => rfl); (case hg => rfl); (case hr => first | (go_simp; done) | (go_simp; rfl)); (case hp => exact (Reps.c4 (show Kd.FK k29 _ _ (⟨t223, t224, t225, t226⟩ : S29) [.int .i64 t223, .int .i64 t224, .int .i64 t225, .slice Ao84 t226.length co84] from (k29_mkF _ _ (⟨t223, t224, t225, t226⟩ : S29) (Kd.N_reads' (Kd.N_mono (ok' := (fun _ => True)) (HO228.out) (fun k_ hk => trivial))).2.1 (Kd.N_F (Kd.N_mono (ok' := (fun _ => True)) (HO228.out) (fun k_ hk => trivial))))) (Reps.c4 (show Kd.FK k29 _ _ (⟨t229, t230, t231, t232⟩ : S29) [.int .i64 t229, .int .i64 t230, .int .i64 t231, .slice Ao85 t232.length co85] from (k29_mkF _ _ (⟨t229, t230, t231, t232⟩ : S29) (Kd.N_reads' (Kd.N_mono (ok' := (fun _ => True)) (HO234.out) (fun k_ hk => trivial))).2.1 (Kd.N_F (Kd.N_mono (ok' := (fun _ => True)) (HO234.out) (fun k_ hk => trivial))))) (Reps.none _ _)))); intro v236 w86 ho87 hb hg_ hnew_; clear hg_ hnew_; (first | rw [← Ny235.out] at ho87 | (simp only [Int.reduceToNat] at ho87; rw [← Ny235.out] at ho87)); have n0_ := Aside0.mk (Kd.N_lower ho87 (below_size (by repeat (first | (with_reducible first | exact HB.out | apply below_alloc | apply pw_below_drewN | apply below_drew1) | exact HB.out)))); have n1_ := Aside0.mk (below_step (by repeat (first | (with_reducible first | exact HB.out | apply below_alloc | apply pw_below_drewN | apply below_drew1) | exact HB.out)) hb); clear HB; clear HO228; clear HO234; have HO237 := n0_; have HB := n1_; clear n0_ n1_; clear hb ho87; obtain ⟨Ao88, co88, eo88⟩ := Kd.N_slice HO237.out; subst eo88) | ((with_reducible refine gate_callee (f := 14) rfl ?_); refine goesL_ (some 88) rfl rfl Try.func14 (by kernel_rfl) rfl #[.agg #[.int .i64 3, .slice Ao88 y235.length co88, .slice none 0 0], .slice none 0 0, .slice none 0 0] rfl (by (try simp only [List.map_toArray, List.map_cons, List.map_nil]); first | done | rfl | (simp only [List.length_drop, List.length_take]; rfl)) ?_; (refine (num_Holds.calls kj15 3 _ _ y235 _ _ ([] : List (S34)) _ _ ([] : List Int) _ _ ([] : List Int) t238 _ ?side1 ?side2 ?side3 ?side4 ?side5 ?side6 ?side7 ?side8 A47.out).mono ?_); (case side1 => repeat (first | exact (Kd.N_reads' HO237.out).2.2 | (with_reducible refine Kd.C_alloc ?_ _) | (with_reducible refine Kd.C_drewN ?_ _) | (with_reducible refine Kd.C_drew ?_))); (case side2 => exact (Kd.N_reads' HO237.out).2.1); (case side3 => exact Kd.C_nil _ _); (case side4 => exact Nat.le_refl _); (case side5 => exact Kd.C_nil _ _); (case side6 => exact Nat.le_refl _); (case side7 => exact Kd.C_nil _ _); (case side8 => exact Nat.le_refl _); rintro e w89 ⟨rfl, hb⟩; refine ⟨_, rfl, ?_⟩; have n0_ := Aside0.mk (Kd.N_below (by (with_reducible repeat (first | apply Kd.N_alloc | apply Kd.N_drewN | apply Kd.N_drew)); exact HO237.out) hb); have n1_ := Aside0.mk (below_step (by repeat (first | (with_reducible first | exact HB.out | apply below_alloc | apply pw_below_drewN | apply below_drew1) | exact HB.out)) hb); clear HO237; clear HB; have HO237 := n0_; have HB := n1_; clear n0_ n1_; (try clear hb); (try clear hb2); (try clear hk); (try clear hi)))
                  go_ret
                  exact ⟨by first | rfl | (simp [errW_none, errW_some] <;> rfl) | (simp [*, errW_none, errW_some] <;> rfl), by repeat (first | (with_reducible first | exact HB.out | apply below_alloc | apply pw_below_drewN | apply below_drew1) | exact HB.out)⟩
  · replace c5 := Bool.eq_false_iff.mpr c5
    subst c5
    have H1 : (some false) = some r := by rw [if_neg (show ¬ (false = true) by decide)] at H; exact H
    clear H
    have H := H1
    clear H1
    obtain rfl := Option.some.inj H
    go_enter Try.func5, Try.ntmps5
    go_wp2_with (first | ((with_reducible refine gate_callee (f := 10) rfl ?_); refine goesL_ (some 14) rfl rfl Try.func10 (by kernel_rfl) rfl #[] rfl (by (try simp only [List.map_toArray, List.map_cons, List.map_nil]); first | done | rfl | (simp only [List.length_drop, List.length_take]; rfl)) ?_; (with_reducible refine (parolelaw01_examples.calls k  false _ A4.out).mono ?_); rintro e w90 ⟨rfl, hb⟩; refine ⟨_, rfl, ?_⟩; have n0_ := Aside0.mk (below_step (by repeat (first | (with_reducible first | exact HB.out | apply below_alloc | apply pw_below_drewN | apply below_drew1) | exact HB.out)) hb); clear HB; have HB := n0_; clear n0_; (try clear hb); (try clear hb2); (try clear hk); (try clear hi)))
    go_ret
    exact ⟨by first | rfl | (simp [errW_none, errW_some] <;> rfl) | (simp [*, errW_none, errW_some] <;> rfl), by repeat (first | (with_reducible first | exact HB.out | apply below_alloc | apply pw_below_drewN | apply below_drew1) | exact HB.out)⟩

/-- THE ONE PURE STATEMENT of parolelaw01_NumOrder: yours. -/
def parolelaw01_NumOrder.Pure : Prop := ∀ (a0 : Int) (a1 : Int) (a2 : Int), (Lit.int .i32 a0).wf = true → (Lit.int .i32 a1).wf = true → (Lit.int .i32 a2).wf = true → ∃ k, parolelaw01_NumOrder.f k a0 a1 a2 = some true
theorem parolelaw01_NumOrder.walk (P : parolelaw01_NumOrder.Pure) (a0 : Int) (a1 : Int) (a2 : Int) (w : World) (w0 : (Lit.int .i32 a0).wf = true) (w1 : (Lit.int .i32 a1).wf = true) (w2 : (Lit.int .i32 a2).wf = true) :
    Calls Try.prog 5 #[.int .i32 a0, .int .i32 a1, .int .i32 a2] w fun e w' => e = .returned (.bool true) ∧ Below w.heap.size w w' := by
  obtain ⟨k, h⟩ := P a0 a1 a2 w0 w1 w2
  refine (parolelaw01_NumOrder.calls k a0 a1 a2 true w h).mono ?_
  rintro e w' ⟨rfl, hd⟩
  exact ⟨rfl, hd⟩

end Go.Proofs.Ytbbnefpjnjjibaa.XA
