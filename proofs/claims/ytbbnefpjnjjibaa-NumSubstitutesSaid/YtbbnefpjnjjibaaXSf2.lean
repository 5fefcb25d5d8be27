-- Written by xprint.py, a program of mine that runs over the print of the translation. Lean checks it.
import Derived.Test.YtbbnefpjnjjibaaXSf0
import Derived.Test.YtbbnefpjnjjibaaXSf1
namespace Go.Proofs.Ytbbnefpjnjjibaa.XS
open Go.RowKit Go.Proofs.YtbbnefpjnjjibaaW.PrintWords Go.Proofs.YtbbnefpjnjjibaaW.PrintLast Go.Proofs.YtbbnefpjnjjibaaW.PrintMore
attribute [local go_sem] max2_int min2_int max_two min_two max_three min_three max_four min_four   -- for this text's walks alone
attribute [local irreducible] Go.Calls
set_option linter.unusedVariables false
set_option linter.unusedSimpArgs false


/-! ### num_Holds: function 14 (by hand: num_Holds.lean) -/
def holdsValue (k : Nat) (l0 : List S29) (n : Int) (l1 l2 : List Int) : Option Int := (api_Expr.f l0 n).bind fun b => num_Eval.f k b.1 b.2.1 b.2.2.1 b.2.2.2 l1 l2
def num_Holds.f : Nat → Int → List (S29) → List (S34) → List Int → List Int → Option (Bool)
  | 0, _, _, _, _, _ => none
  | k + 1, op, la, lc, l1, l2 =>
    if op = 1 then (some true)
    else (if op = 2 then ((holdsValue k la 0 l1 l2).bind fun x => ((holdsValue k la 1 l1 l2).bind fun y => (some (decide (x < y)))))
    else (if op = 3 then ((holdsValue k la 0 l1 l2).bind fun x => ((holdsValue k la 1 l1 l2).bind fun y => (some (decide (x ≤ y)))))
    else (if op = 4 then ((holdsValue k la 0 l1 l2).bind fun x => ((holdsValue k la 1 l1 l2).bind fun y => (some (x == y))))
    else (if op = 5 then (((api_Cond.f lc 0).bind fun b => num_Holds.f k b.1 b.2.1 b.2.2 l1 l2).bind fun x => (some (!x)))
    else (if op = 6 then (((api_Cond.f lc 0).bind fun b => num_Holds.f k b.1 b.2.1 b.2.2 l1 l2).bind fun x => (if x = true then ((api_Cond.f lc 1).bind fun b => num_Holds.f k b.1 b.2.1 b.2.2 l1 l2) else (some false)))
    else (if op = 7 then (((api_Cond.f lc 0).bind fun b => num_Holds.f k b.1 b.2.1 b.2.2 l1 l2).bind fun x => (if x = true then (some true) else ((api_Cond.f lc 1).bind fun b => num_Holds.f k b.1 b.2.1 b.2.2 l1 l2)))
    else (some false)))))))
theorem holdsValue.mono (a1 : List S29) (a2 : Int) (a3 a4 : List Int) (k : Nat) : LeO (holdsValue k a1 a2 a3 a4) (holdsValue (k + 1) a1 a2 a3 a4) := by
  unfold holdsValue
  exact LeO.bind (LeO.refl _) (fun _ => num_Eval.mono _ _ _ _ _ _ _)
theorem num_Holds.mono_l : ∀ k, ∀ a0 a1 a2 a3 a4, LeO (num_Holds.f k a0 a1 a2 a3 a4) (num_Holds.f (k + 1) a0 a1 a2 a3 a4)
  | 0 => fun _ _ _ _ _ r h => by simp [num_Holds.f] at h
  | k + 1 => by
    have ih := num_Holds.mono_l k
    intro a0 a1 a2 a3 a4
    unfold num_Holds.f
    repeat' first
      | (with_reducible exact LeO.refl _)
      | (with_reducible exact holdsValue.mono _ _ _ _ _)
      | (with_reducible exact ih _ _ _ _ _)
      | (with_reducible refine LeO.ite ?_ ?_)
      | (with_reducible refine LeO.bind ?_ (fun _ => ?_))
theorem num_Holds.mono : ∀ a0 a1 a2 a3 a4 k, LeO (num_Holds.f k a0 a1 a2 a3 a4) (num_Holds.f (k + 1) a0 a1 a2 a3 a4) := fun a0 a1 a2 a3 a4 k => num_Holds.mono_l k a0 a1 a2 a3 a4

/-- at[api.Expr] and at[api.Cond], in the plainest form. -/
theorem at_expr (A0 : Option Addr) (c0 : Nat) (l0 : List S29) (n r1 r2 r3 : Int) (r4 : List S29) (W : World) (hr : Kd.C k29 W A0 l0.length l0) (hl : l0.length ≤ c0) (h : api_Expr.f l0 n = some (r1, r2, r3, r4)) :
    Calls Try.prog 39 #[.slice A0 l0.length c0, .int .i64 n] W fun e w' => ∃ A c, e = .returned (.agg #[.int .i64 r1, .int .i64 r2, .int .i64 r3, .slice A r4.length c]) ∧ r4.length ≤ c ∧ Kd.C k29 w' A r4.length r4 ∧ Below W.heap.size W w' := by
  refine (api_Expr.calls (fun k_ => k_ < W.heap.size) A0 c0 l0 n r1 r2 r3 r4 W (Kd.V_mk hl (Kd.C_F k29_heap hr)) h).mono ?_
  rintro e w' ⟨v, rfl, hv, hb⟩
  obtain ⟨A, c, rfl⟩ := Kd.V_slice hv
  have h3 := Kd.V_reads' hv
  exact ⟨A, c, rfl, h3.2.1, h3.2.2, hb⟩
theorem at_cond (A0 : Option Addr) (c0 : Nat) (l0 : List S34) (n r1 : Int) (r2 : List S29) (r3 : List S34) (W : World) (hr : Kd.C k34 W A0 l0.length l0) (hl : l0.length ≤ c0) (h : api_Cond.f l0 n = some (r1, r2, r3)) :
    Calls Try.prog 41 #[.slice A0 l0.length c0, .int .i64 n] W fun e w' => ∃ A c B d, e = .returned (.agg #[.int .i64 r1, .slice A r2.length c, .slice B r3.length d]) ∧ (r2.length ≤ c ∧ Kd.C k29 w' A r2.length r2) ∧ (r3.length ≤ d ∧ Kd.C k34 w' B r3.length r3) ∧ Below W.heap.size W w' := by
  refine (api_Cond.calls (fun k_ => k_ < W.heap.size) A0 c0 l0 n r1 r2 r3 W (Kd.V_mk hl (Kd.C_F k34_heap hr)) h).mono ?_
  rintro e w' ⟨v1, v2, rfl, hv1, hv2, hb⟩
  obtain ⟨A, c, rfl⟩ := Kd.V_slice hv1
  obtain ⟨B, d, rfl⟩ := Kd.V_slice hv2
  have h3 := Kd.V_reads' hv1
  have h4 := Kd.V_reads' hv2
  exact ⟨A, c, B, d, rfl, h3.2, h4.2, hb⟩

set_option maxHeartbeats 1000000 in
set_option maxRecDepth 100000 in
/-- The closure 'value'. -/
theorem holds_value (k : Nat) (n r : Int) (b0 b1 b2 : Nat) (A0 A1 A2 : Option Addr) (c0 c1 c2 : Nat) (l0 : List S29) (l1 l2 : List Int) (W : World)
    (hc0 : W.cell? ⟨b0, 1, none⟩ = some (.slice A0 l0.length c0)) (hc1 : W.cell? ⟨b1, 0, none⟩ = some (.slice A1 l1.length c1)) (hc2 : W.cell? ⟨b2, 0, none⟩ = some (.slice A2 l2.length c2))
    (hr0 : Kd.C k29 W A0 l0.length l0) (hl0 : l0.length ≤ c0) (hr1 : Kd.C (Kd.int .i64) W A1 l1.length l1) (hl1 : l1.length ≤ c1) (hr2 : Kd.C (Kd.int .i64) W A2 l2.length l2) (hl2 : l2.length ≤ c2)
    (h : holdsValue k l0 n l1 l2 = some r) :
    Calls Try.prog 38 #[.int .i64 n, .pointer (some ⟨b0, 0, none⟩), .pointer (some ⟨b1, 0, none⟩), .pointer (some ⟨b2, 0, none⟩)] W fun e w' => e = .returned (.int .i64 r) ∧ Below W.heap.size W w' := by
  unfold holdsValue at h
  obtain ⟨⟨r1, r2, r3, r4⟩, ha, he⟩ := Option.bind_eq_some_iff.mp h
  clear h
  have HA := Aside0.mk ha
  have HE := Aside0.mk he
  have H0 := Aside0.mk (And.intro hr0 hl0)
  have H1 := Aside0.mk (And.intro hr1 hl1)
  have H2 := Aside0.mk (And.intro hr2 hl2)
  clear ha he hr0 hl0 hr1 hl1 hr2 hl2
  go_enter Try.func38, Try.ntmps38
  go_wp2
  go_region_held3 (fun w' => w'.cell? ⟨b0, 1, none⟩ = some (.slice A0 l0.length c0) ∧ w'.cell? ⟨b1, 0, none⟩ = some (.slice A1 l1.length c1) ∧ w'.cell? ⟨b2, 0, none⟩ = some (.slice A2 l2.length c2))
    ((first | go_keep | exact ⟨p0, p1, p2⟩ | exact ⟨q0, q1, q2⟩))
    (first
      | (go_at_call 39; refine (at_expr A0 c0 l0 n r1 r2 r3 r4 _ ?_ H0.out.2 HA.out).mono ?_; exact Kd.C_below H0.out.1 (below_drew (Below.refl _ _)); rintro e w1 ⟨A, c, rfl, hl, hr, hb0⟩; have hb := below_step (below_drew (Below.refl _ _)) hb0; clear hb0; have q0 := pw_cell_below hb hc0; have q1 := pw_cell_below hb hc1; have q2 := pw_cell_below hb hc2; have HQ := Aside0.mk (And.intro hr hl); have HB := Aside0.mk hb; clear hl hr hb)
      | (go_at_call 16; refine (num_Eval.calls k r1 r2 r3 A c r4 A1 c1 l1 A2 c2 l2 r _ HQ.out.1 HQ.out.2 (Kd.C_below H1.out.1 HB.out) H1.out.2 (Kd.C_below H2.out.1 HB.out) H2.out.2 HE.out).mono ?_; rintro e w2 ⟨rfl, hb2⟩; have p0 := pw_cell_below hb2 q0; have p1 := pw_cell_below hb2 q1; have p2 := pw_cell_below hb2 q2; have HB2 := Aside0.mk hb2; clear hb2))
  go_wp2
  go_ret
  exact ⟨rfl, below_step HB.out HB2.out⟩

/-- What Holds does with fewer rounds. -/
def HoldsIH (k : Nat) : Prop := ∀ (op : Int) (A0 : Option Addr) (c0 : Nat) (l0 : List S29) (B0 : Option Addr) (d0 : Nat) (m0 : List S34) (A1 : Option Addr) (c1 : Nat) (l1 : List Int) (A2 : Option Addr) (c2 : Nat) (l2 : List Int) (r : Bool) (w : World) (_ : Kd.C k29 w A0 l0.length l0) (_ : l0.length ≤ c0) (_ : Kd.C k34 w B0 m0.length m0) (_ : m0.length ≤ d0) (_ : Kd.C (Kd.int .i64) w A1 l1.length l1) (_ : l1.length ≤ c1) (_ : Kd.C (Kd.int .i64) w A2 l2.length l2) (_ : l2.length ≤ c2) (_ : num_Holds.f k op l0 m0 l1 l2 = some r),
    Calls Try.prog 14 #[.agg #[.int .i64 op, .slice A0 l0.length c0, .slice B0 m0.length d0], .slice A1 l1.length c1, .slice A2 l2.length c2] w fun e w' => e = .returned (.bool r) ∧ Below w.heap.size w w'

set_option maxHeartbeats 1000000 in
set_option maxRecDepth 100000 in
/-- The closure 'holds'. -/
theorem holds_holds (k : Nat) (ih : HoldsIH k) (n : Int) (r : Bool) (b0 b1 b2 : Nat) (A0 A1 A2 : Option Addr) (c0 c1 c2 : Nat) (l0 : List S34) (l1 l2 : List Int) (W : World)
    (hc0 : W.cell? ⟨b0, 2, none⟩ = some (.slice A0 l0.length c0)) (hc1 : W.cell? ⟨b1, 0, none⟩ = some (.slice A1 l1.length c1)) (hc2 : W.cell? ⟨b2, 0, none⟩ = some (.slice A2 l2.length c2))
    (hr0 : Kd.C k34 W A0 l0.length l0) (hl0 : l0.length ≤ c0) (hr1 : Kd.C (Kd.int .i64) W A1 l1.length l1) (hl1 : l1.length ≤ c1) (hr2 : Kd.C (Kd.int .i64) W A2 l2.length l2) (hl2 : l2.length ≤ c2)
    (h : ((api_Cond.f l0 n).bind fun b => num_Holds.f k b.1 b.2.1 b.2.2 l1 l2) = some r) :
    Calls Try.prog 40 #[.int .i64 n, .pointer (some ⟨b0, 0, none⟩), .pointer (some ⟨b1, 0, none⟩), .pointer (some ⟨b2, 0, none⟩)] W fun e w' => e = .returned (.bool r) ∧ Below W.heap.size W w' := by
  obtain ⟨⟨r1, r2, r3⟩, ha, he⟩ := Option.bind_eq_some_iff.mp h
  clear h
  have IH := Aside0.mk ih
  have HA := Aside0.mk ha
  have HE := Aside0.mk he
  have H0 := Aside0.mk (And.intro hr0 hl0)
  have H1 := Aside0.mk (And.intro hr1 hl1)
  have H2 := Aside0.mk (And.intro hr2 hl2)
  clear ih ha he hr0 hl0 hr1 hl1 hr2 hl2
  go_enter Try.func40, Try.ntmps40
  go_wp2
  go_region_held3 (fun w' => w'.cell? ⟨b0, 2, none⟩ = some (.slice A0 l0.length c0) ∧ w'.cell? ⟨b1, 0, none⟩ = some (.slice A1 l1.length c1) ∧ w'.cell? ⟨b2, 0, none⟩ = some (.slice A2 l2.length c2))
    ((first | go_keep | exact ⟨p0, p1, p2⟩ | exact ⟨q0, q1, q2⟩))
    (first
      | (go_at_call 41; refine (at_cond A0 c0 l0 n r1 r2 r3 _ ?_ H0.out.2 HA.out).mono ?_; exact Kd.C_below H0.out.1 (below_drew (Below.refl _ _)); rintro e w1 ⟨A, c, B, d, rfl, hq1, hq2, hb0⟩; have hb := below_step (below_drew (Below.refl _ _)) hb0; clear hb0; have q0 := pw_cell_below hb hc0; have q1 := pw_cell_below hb hc1; have q2 := pw_cell_below hb hc2; have HQ := Aside0.mk (And.intro hq1 hq2); have HB := Aside0.mk hb; clear hq1 hq2 hb)
      | (go_at_call 14; refine (IH.out r1 A c r2 B d r3 A1 c1 l1 A2 c2 l2 r _ HQ.out.1.2 HQ.out.1.1 HQ.out.2.2 HQ.out.2.1 (Kd.C_below H1.out.1 HB.out) H1.out.2 (Kd.C_below H2.out.1 HB.out) H2.out.2 HE.out).mono ?_; rintro e w2 ⟨rfl, hb2⟩; have p0 := pw_cell_below hb2 q0; have p1 := pw_cell_below hb2 q1; have p2 := pw_cell_below hb2 q2; have HB2 := Aside0.mk hb2; clear hb2))
  go_wp2
  go_ret
  exact ⟨rfl, below_step HB.out HB2.out⟩
-- generated below
set_option maxHeartbeats 2000000 in
set_option maxRecDepth 100000 in
theorem holds_lt (k : Nat) (x y : Int) (A0 : Option Addr) (c0 : Nat) (l0 : List S29) (B0 : Option Addr) (d0 : Nat) (m0 : List S34) (A1 : Option Addr) (c1 : Nat) (l1 : List Int) (A2 : Option Addr) (c2 : Nat) (l2 : List Int) (w : World) (hr0 : Kd.C k29 w A0 l0.length l0) (hl0 : l0.length ≤ c0) (hrm : Kd.C k34 w B0 m0.length m0) (hlm : m0.length ≤ d0) (hr1 : Kd.C (Kd.int .i64) w A1 l1.length l1) (hl1 : l1.length ≤ c1) (hr2 : Kd.C (Kd.int .i64) w A2 l2.length l2) (hl2 : l2.length ≤ c2) (hx : holdsValue k l0 0 l1 l2 = some x) (hy : holdsValue k l0 1 l1 l2 = some y) :
    Calls Try.prog 14 #[.agg #[.int .i64 2, .slice A0 l0.length c0, .slice B0 m0.length d0], .slice A1 l1.length c1, .slice A2 l2.length c2] w fun e w' => e = .returned (.bool (decide (x < y))) ∧ Below w.heap.size w w' := by
  have HX := Aside0.mk hx
  have HY := Aside0.mk hy
  clear hx hy
  have H0 := Aside0.mk (And.intro hr0 hl0)
  have HM := Aside0.mk (And.intro hrm hlm)
  have H1 := Aside0.mk (And.intro hr1 hl1)
  have H2 := Aside0.mk (And.intro hr2 hl2)
  clear hr0 hl0 hrm hlm hr1 hl1 hr2 hl2
  go_enter Try.func14, Try.ntmps14
  go_wp2_with (first | (go_at_call 38; with_reducible refine (holds_value k 0 _ w.heap.size (w.heap.size + 1) (w.heap.size + 1 + 1) A0 A1 A2 c0 c1 c2 l0 l1 l2 _ ?a1 ?a2 ?a3 ?a4 H0.out.2 ?a5 H1.out.2 ?a6 H2.out.2 HX.out).mono ?_; (case a1 => go_simp); (case a2 => go_simp); (case a3 => go_simp); (case a4 => exact Kd.C_below H0.out.1 (below_alloc (below_alloc (below_alloc (Below.refl _ _) _) _) _)); (case a5 => exact Kd.C_below H1.out.1 (below_alloc (below_alloc (below_alloc (Below.refl _ _) _) _) _)); (case a6 => exact Kd.C_below H2.out.1 (below_alloc (below_alloc (below_alloc (Below.refl _ _) _) _) _)); rintro e w1 ⟨rfl, hb⟩; have q0 : w1.cell? ⟨w.heap.size, 1, none⟩ = some (.slice A0 l0.length c0) := pw_cell_below hb (by go_simp); have q1 : w1.cell? ⟨w.heap.size + 1, 0, none⟩ = some (.slice A1 l1.length c1) := pw_cell_below hb (by go_simp); have q2 : w1.cell? ⟨w.heap.size + 1 + 1, 0, none⟩ = some (.slice A2 l2.length c2) := pw_cell_below hb (by go_simp); have HB := Aside0.mk (below_step (below_alloc (below_alloc (below_alloc (Below.refl _ _) _) _) _) hb); clear hb) | (go_at_call 38; with_reducible refine (holds_value k 1 _ w.heap.size (w.heap.size + 1) (w.heap.size + 1 + 1) A0 A1 A2 c0 c1 c2 l0 l1 l2 _ q0 q1 q2 ?a4 H0.out.2 ?a5 H1.out.2 ?a6 H2.out.2 HY.out).mono ?_; (case a4 => exact Kd.C_below H0.out.1 HB.out); (case a5 => exact Kd.C_below H1.out.1 HB.out); (case a6 => exact Kd.C_below H2.out.1 HB.out); rintro e w2 ⟨rfl, hb2⟩; have HB2 := Aside0.mk (below_step HB.out hb2); clear hb2))
  go_ret
  exact ⟨rfl, HB2.out⟩
set_option maxHeartbeats 2000000 in
set_option maxRecDepth 100000 in
theorem holds_le (k : Nat) (x y : Int) (A0 : Option Addr) (c0 : Nat) (l0 : List S29) (B0 : Option Addr) (d0 : Nat) (m0 : List S34) (A1 : Option Addr) (c1 : Nat) (l1 : List Int) (A2 : Option Addr) (c2 : Nat) (l2 : List Int) (w : World) (hr0 : Kd.C k29 w A0 l0.length l0) (hl0 : l0.length ≤ c0) (hrm : Kd.C k34 w B0 m0.length m0) (hlm : m0.length ≤ d0) (hr1 : Kd.C (Kd.int .i64) w A1 l1.length l1) (hl1 : l1.length ≤ c1) (hr2 : Kd.C (Kd.int .i64) w A2 l2.length l2) (hl2 : l2.length ≤ c2) (hx : holdsValue k l0 0 l1 l2 = some x) (hy : holdsValue k l0 1 l1 l2 = some y) :
    Calls Try.prog 14 #[.agg #[.int .i64 3, .slice A0 l0.length c0, .slice B0 m0.length d0], .slice A1 l1.length c1, .slice A2 l2.length c2] w fun e w' => e = .returned (.bool (decide (x ≤ y))) ∧ Below w.heap.size w w' := by
  have HX := Aside0.mk hx
  have HY := Aside0.mk hy
  clear hx hy
  have H0 := Aside0.mk (And.intro hr0 hl0)
  have HM := Aside0.mk (And.intro hrm hlm)
  have H1 := Aside0.mk (And.intro hr1 hl1)
  have H2 := Aside0.mk (And.intro hr2 hl2)
  clear hr0 hl0 hrm hlm hr1 hl1 hr2 hl2
  go_enter Try.func14, Try.ntmps14
  go_wp2_with (first | (go_at_call 38; with_reducible refine (holds_value k 0 _ w.heap.size (w.heap.size + 1) (w.heap.size + 1 + 1) A0 A1 A2 c0 c1 c2 l0 l1 l2 _ ?a1 ?a2 ?a3 ?a4 H0.out.2 ?a5 H1.out.2 ?a6 H2.out.2 HX.out).mono ?_; (case a1 => go_simp); (case a2 => go_simp); (case a3 => go_simp); (case a4 => exact Kd.C_below H0.out.1 (below_alloc (below_alloc (below_alloc (Below.refl _ _) _) _) _)); (case a5 => exact Kd.C_below H1.out.1 (below_alloc (below_alloc (below_alloc (Below.refl _ _) _) _) _)); (case a6 => exact Kd.C_below H2.out.1 (below_alloc (below_alloc (below_alloc (Below.refl _ _) _) _) _)); rintro e w1 ⟨rfl, hb⟩; have q0 : w1.cell? ⟨w.heap.size, 1, none⟩ = some (.slice A0 l0.length c0) := pw_cell_below hb (by go_simp); have q1 : w1.cell? ⟨w.heap.size + 1, 0, none⟩ = some (.slice A1 l1.length c1) := pw_cell_below hb (by go_simp); have q2 : w1.cell? ⟨w.heap.size + 1 + 1, 0, none⟩ = some (.slice A2 l2.length c2) := pw_cell_below hb (by go_simp); have HB := Aside0.mk (below_step (below_alloc (below_alloc (below_alloc (Below.refl _ _) _) _) _) hb); clear hb) | (go_at_call 38; with_reducible refine (holds_value k 1 _ w.heap.size (w.heap.size + 1) (w.heap.size + 1 + 1) A0 A1 A2 c0 c1 c2 l0 l1 l2 _ q0 q1 q2 ?a4 H0.out.2 ?a5 H1.out.2 ?a6 H2.out.2 HY.out).mono ?_; (case a4 => exact Kd.C_below H0.out.1 HB.out); (case a5 => exact Kd.C_below H1.out.1 HB.out); (case a6 => exact Kd.C_below H2.out.1 HB.out); rintro e w2 ⟨rfl, hb2⟩; have HB2 := Aside0.mk (below_step HB.out hb2); clear hb2))
  go_ret
  exact ⟨rfl, HB2.out⟩
set_option maxHeartbeats 2000000 in
set_option maxRecDepth 100000 in
theorem holds_eq (k : Nat) (x y : Int) (A0 : Option Addr) (c0 : Nat) (l0 : List S29) (B0 : Option Addr) (d0 : Nat) (m0 : List S34) (A1 : Option Addr) (c1 : Nat) (l1 : List Int) (A2 : Option Addr) (c2 : Nat) (l2 : List Int) (w : World) (hr0 : Kd.C k29 w A0 l0.length l0) (hl0 : l0.length ≤ c0) (hrm : Kd.C k34 w B0 m0.length m0) (hlm : m0.length ≤ d0) (hr1 : Kd.C (Kd.int .i64) w A1 l1.length l1) (hl1 : l1.length ≤ c1) (hr2 : Kd.C (Kd.int .i64) w A2 l2.length l2) (hl2 : l2.length ≤ c2) (hx : holdsValue k l0 0 l1 l2 = some x) (hy : holdsValue k l0 1 l1 l2 = some y) :
    Calls Try.prog 14 #[.agg #[.int .i64 4, .slice A0 l0.length c0, .slice B0 m0.length d0], .slice A1 l1.length c1, .slice A2 l2.length c2] w fun e w' => e = .returned (.bool (x == y)) ∧ Below w.heap.size w w' := by
  have HX := Aside0.mk hx
  have HY := Aside0.mk hy
  clear hx hy
  have H0 := Aside0.mk (And.intro hr0 hl0)
  have HM := Aside0.mk (And.intro hrm hlm)
  have H1 := Aside0.mk (And.intro hr1 hl1)
  have H2 := Aside0.mk (And.intro hr2 hl2)
  clear hr0 hl0 hrm hlm hr1 hl1 hr2 hl2
  go_enter Try.func14, Try.ntmps14
  go_wp2_with (first | (go_at_call 38; with_reducible refine (holds_value k 0 _ w.heap.size (w.heap.size + 1) (w.heap.size + 1 + 1) A0 A1 A2 c0 c1 c2 l0 l1 l2 _ ?a1 ?a2 ?a3 ?a4 H0.out.2 ?a5 H1.out.2 ?a6 H2.out.2 HX.out).mono ?_; (case a1 => go_simp); (case a2 => go_simp); (case a3 => go_simp); (case a4 => exact Kd.C_below H0.out.1 (below_alloc (below_alloc (below_alloc (Below.refl _ _) _) _) _)); (case a5 => exact Kd.C_below H1.out.1 (below_alloc (below_alloc (below_alloc (Below.refl _ _) _) _) _)); (case a6 => exact Kd.C_below H2.out.1 (below_alloc (below_alloc (below_alloc (Below.refl _ _) _) _) _)); rintro e w1 ⟨rfl, hb⟩; have q0 : w1.cell? ⟨w.heap.size, 1, none⟩ = some (.slice A0 l0.length c0) := pw_cell_below hb (by go_simp); have q1 : w1.cell? ⟨w.heap.size + 1, 0, none⟩ = some (.slice A1 l1.length c1) := pw_cell_below hb (by go_simp); have q2 : w1.cell? ⟨w.heap.size + 1 + 1, 0, none⟩ = some (.slice A2 l2.length c2) := pw_cell_below hb (by go_simp); have HB := Aside0.mk (below_step (below_alloc (below_alloc (below_alloc (Below.refl _ _) _) _) _) hb); clear hb) | (go_at_call 38; with_reducible refine (holds_value k 1 _ w.heap.size (w.heap.size + 1) (w.heap.size + 1 + 1) A0 A1 A2 c0 c1 c2 l0 l1 l2 _ q0 q1 q2 ?a4 H0.out.2 ?a5 H1.out.2 ?a6 H2.out.2 HY.out).mono ?_; (case a4 => exact Kd.C_below H0.out.1 HB.out); (case a5 => exact Kd.C_below H1.out.1 HB.out); (case a6 => exact Kd.C_below H2.out.1 HB.out); rintro e w2 ⟨rfl, hb2⟩; have HB2 := Aside0.mk (below_step HB.out hb2); clear hb2))
  go_ret
  exact ⟨rfl, HB2.out⟩
set_option maxHeartbeats 2000000 in
set_option maxRecDepth 100000 in
theorem holds_not (k : Nat) (ih : HoldsIH k) (x : Bool) (A0 : Option Addr) (c0 : Nat) (l0 : List S29) (B0 : Option Addr) (d0 : Nat) (m0 : List S34) (A1 : Option Addr) (c1 : Nat) (l1 : List Int) (A2 : Option Addr) (c2 : Nat) (l2 : List Int) (w : World) (hr0 : Kd.C k29 w A0 l0.length l0) (hl0 : l0.length ≤ c0) (hrm : Kd.C k34 w B0 m0.length m0) (hlm : m0.length ≤ d0) (hr1 : Kd.C (Kd.int .i64) w A1 l1.length l1) (hl1 : l1.length ≤ c1) (hr2 : Kd.C (Kd.int .i64) w A2 l2.length l2) (hl2 : l2.length ≤ c2) (hx : ((api_Cond.f m0 0).bind fun b => num_Holds.f k b.1 b.2.1 b.2.2 l1 l2) = some x) :
    Calls Try.prog 14 #[.agg #[.int .i64 5, .slice A0 l0.length c0, .slice B0 m0.length d0], .slice A1 l1.length c1, .slice A2 l2.length c2] w fun e w' => e = .returned (.bool (!x)) ∧ Below w.heap.size w w' := by
  have HX := Aside0.mk hx
  have IH := Aside0.mk ih
  clear hx ih
  have H0 := Aside0.mk (And.intro hr0 hl0)
  have HM := Aside0.mk (And.intro hrm hlm)
  have H1 := Aside0.mk (And.intro hr1 hl1)
  have H2 := Aside0.mk (And.intro hr2 hl2)
  clear hr0 hl0 hrm hlm hr1 hl1 hr2 hl2
  go_enter Try.func14, Try.ntmps14
  go_wp2_with (first | (go_at_call 40; with_reducible refine (holds_holds k IH.out 0 _ w.heap.size (w.heap.size + 1) (w.heap.size + 1 + 1) B0 A1 A2 d0 c1 c2 m0 l1 l2 _ ?a1 ?a2 ?a3 ?a4 HM.out.2 ?a5 H1.out.2 ?a6 H2.out.2 HX.out).mono ?_; (case a1 => go_simp); (case a2 => go_simp); (case a3 => go_simp); (case a4 => exact Kd.C_below HM.out.1 (below_alloc (below_alloc (below_alloc (Below.refl _ _) _) _) _)); (case a5 => exact Kd.C_below H1.out.1 (below_alloc (below_alloc (below_alloc (Below.refl _ _) _) _) _)); (case a6 => exact Kd.C_below H2.out.1 (below_alloc (below_alloc (below_alloc (Below.refl _ _) _) _) _)); rintro e w1 ⟨rfl, hb⟩; have q0 : w1.cell? ⟨w.heap.size, 2, none⟩ = some (.slice B0 m0.length d0) := pw_cell_below hb (by go_simp); have q1 : w1.cell? ⟨w.heap.size + 1, 0, none⟩ = some (.slice A1 l1.length c1) := pw_cell_below hb (by go_simp); have q2 : w1.cell? ⟨w.heap.size + 1 + 1, 0, none⟩ = some (.slice A2 l2.length c2) := pw_cell_below hb (by go_simp); have HB := Aside0.mk (below_step (below_alloc (below_alloc (below_alloc (Below.refl _ _) _) _) _) hb); clear hb))
  go_ret
  exact ⟨rfl, HB.out⟩
set_option maxHeartbeats 2000000 in
set_option maxRecDepth 100000 in
theorem holds_and_no (k : Nat) (ih : HoldsIH k) (A0 : Option Addr) (c0 : Nat) (l0 : List S29) (B0 : Option Addr) (d0 : Nat) (m0 : List S34) (A1 : Option Addr) (c1 : Nat) (l1 : List Int) (A2 : Option Addr) (c2 : Nat) (l2 : List Int) (w : World) (hr0 : Kd.C k29 w A0 l0.length l0) (hl0 : l0.length ≤ c0) (hrm : Kd.C k34 w B0 m0.length m0) (hlm : m0.length ≤ d0) (hr1 : Kd.C (Kd.int .i64) w A1 l1.length l1) (hl1 : l1.length ≤ c1) (hr2 : Kd.C (Kd.int .i64) w A2 l2.length l2) (hl2 : l2.length ≤ c2) (hx : ((api_Cond.f m0 0).bind fun b => num_Holds.f k b.1 b.2.1 b.2.2 l1 l2) = some false) :
    Calls Try.prog 14 #[.agg #[.int .i64 6, .slice A0 l0.length c0, .slice B0 m0.length d0], .slice A1 l1.length c1, .slice A2 l2.length c2] w fun e w' => e = .returned (.bool (false)) ∧ Below w.heap.size w w' := by
  have HX := Aside0.mk hx
  have IH := Aside0.mk ih
  clear hx ih
  have H0 := Aside0.mk (And.intro hr0 hl0)
  have HM := Aside0.mk (And.intro hrm hlm)
  have H1 := Aside0.mk (And.intro hr1 hl1)
  have H2 := Aside0.mk (And.intro hr2 hl2)
  clear hr0 hl0 hrm hlm hr1 hl1 hr2 hl2
  go_enter Try.func14, Try.ntmps14
  go_wp2_with (first | (go_at_call 40; with_reducible refine (holds_holds k IH.out 0 _ w.heap.size (w.heap.size + 1) (w.heap.size + 1 + 1) B0 A1 A2 d0 c1 c2 m0 l1 l2 _ ?a1 ?a2 ?a3 ?a4 HM.out.2 ?a5 H1.out.2 ?a6 H2.out.2 HX.out).mono ?_; (case a1 => go_simp); (case a2 => go_simp); (case a3 => go_simp); (case a4 => exact Kd.C_below HM.out.1 (below_alloc (below_alloc (below_alloc (Below.refl _ _) _) _) _)); (case a5 => exact Kd.C_below H1.out.1 (below_alloc (below_alloc (below_alloc (Below.refl _ _) _) _) _)); (case a6 => exact Kd.C_below H2.out.1 (below_alloc (below_alloc (below_alloc (Below.refl _ _) _) _) _)); rintro e w1 ⟨rfl, hb⟩; have q0 : w1.cell? ⟨w.heap.size, 2, none⟩ = some (.slice B0 m0.length d0) := pw_cell_below hb (by go_simp); have q1 : w1.cell? ⟨w.heap.size + 1, 0, none⟩ = some (.slice A1 l1.length c1) := pw_cell_below hb (by go_simp); have q2 : w1.cell? ⟨w.heap.size + 1 + 1, 0, none⟩ = some (.slice A2 l2.length c2) := pw_cell_below hb (by go_simp); have HB := Aside0.mk (below_step (below_alloc (below_alloc (below_alloc (Below.refl _ _) _) _) _) hb); clear hb))
  go_ret
  exact ⟨rfl, HB.out⟩
set_option maxHeartbeats 2000000 in
set_option maxRecDepth 100000 in
theorem holds_or_yes (k : Nat) (ih : HoldsIH k) (A0 : Option Addr) (c0 : Nat) (l0 : List S29) (B0 : Option Addr) (d0 : Nat) (m0 : List S34) (A1 : Option Addr) (c1 : Nat) (l1 : List Int) (A2 : Option Addr) (c2 : Nat) (l2 : List Int) (w : World) (hr0 : Kd.C k29 w A0 l0.length l0) (hl0 : l0.length ≤ c0) (hrm : Kd.C k34 w B0 m0.length m0) (hlm : m0.length ≤ d0) (hr1 : Kd.C (Kd.int .i64) w A1 l1.length l1) (hl1 : l1.length ≤ c1) (hr2 : Kd.C (Kd.int .i64) w A2 l2.length l2) (hl2 : l2.length ≤ c2) (hx : ((api_Cond.f m0 0).bind fun b => num_Holds.f k b.1 b.2.1 b.2.2 l1 l2) = some true) :
    Calls Try.prog 14 #[.agg #[.int .i64 7, .slice A0 l0.length c0, .slice B0 m0.length d0], .slice A1 l1.length c1, .slice A2 l2.length c2] w fun e w' => e = .returned (.bool (true)) ∧ Below w.heap.size w w' := by
  have HX := Aside0.mk hx
  have IH := Aside0.mk ih
  clear hx ih
  have H0 := Aside0.mk (And.intro hr0 hl0)
  have HM := Aside0.mk (And.intro hrm hlm)
  have H1 := Aside0.mk (And.intro hr1 hl1)
  have H2 := Aside0.mk (And.intro hr2 hl2)
  clear hr0 hl0 hrm hlm hr1 hl1 hr2 hl2
  go_enter Try.func14, Try.ntmps14
  go_wp2_with (first | (go_at_call 40; with_reducible refine (holds_holds k IH.out 0 _ w.heap.size (w.heap.size + 1) (w.heap.size + 1 + 1) B0 A1 A2 d0 c1 c2 m0 l1 l2 _ ?a1 ?a2 ?a3 ?a4 HM.out.2 ?a5 H1.out.2 ?a6 H2.out.2 HX.out).mono ?_; (case a1 => go_simp); (case a2 => go_simp); (case a3 => go_simp); (case a4 => exact Kd.C_below HM.out.1 (below_alloc (below_alloc (below_alloc (Below.refl _ _) _) _) _)); (case a5 => exact Kd.C_below H1.out.1 (below_alloc (below_alloc (below_alloc (Below.refl _ _) _) _) _)); (case a6 => exact Kd.C_below H2.out.1 (below_alloc (below_alloc (below_alloc (Below.refl _ _) _) _) _)); rintro e w1 ⟨rfl, hb⟩; have q0 : w1.cell? ⟨w.heap.size, 2, none⟩ = some (.slice B0 m0.length d0) := pw_cell_below hb (by go_simp); have q1 : w1.cell? ⟨w.heap.size + 1, 0, none⟩ = some (.slice A1 l1.length c1) := pw_cell_below hb (by go_simp); have q2 : w1.cell? ⟨w.heap.size + 1 + 1, 0, none⟩ = some (.slice A2 l2.length c2) := pw_cell_below hb (by go_simp); have HB := Aside0.mk (below_step (below_alloc (below_alloc (below_alloc (Below.refl _ _) _) _) _) hb); clear hb))
  go_ret
  exact ⟨rfl, HB.out⟩
set_option maxHeartbeats 2000000 in
set_option maxRecDepth 100000 in
theorem holds_and_yes (k : Nat) (ih : HoldsIH k) (y : Bool) (A0 : Option Addr) (c0 : Nat) (l0 : List S29) (B0 : Option Addr) (d0 : Nat) (m0 : List S34) (A1 : Option Addr) (c1 : Nat) (l1 : List Int) (A2 : Option Addr) (c2 : Nat) (l2 : List Int) (w : World) (hr0 : Kd.C k29 w A0 l0.length l0) (hl0 : l0.length ≤ c0) (hrm : Kd.C k34 w B0 m0.length m0) (hlm : m0.length ≤ d0) (hr1 : Kd.C (Kd.int .i64) w A1 l1.length l1) (hl1 : l1.length ≤ c1) (hr2 : Kd.C (Kd.int .i64) w A2 l2.length l2) (hl2 : l2.length ≤ c2) (hx : ((api_Cond.f m0 0).bind fun b => num_Holds.f k b.1 b.2.1 b.2.2 l1 l2) = some true) (hy : ((api_Cond.f m0 1).bind fun b => num_Holds.f k b.1 b.2.1 b.2.2 l1 l2) = some y) :
    Calls Try.prog 14 #[.agg #[.int .i64 6, .slice A0 l0.length c0, .slice B0 m0.length d0], .slice A1 l1.length c1, .slice A2 l2.length c2] w fun e w' => e = .returned (.bool (y)) ∧ Below w.heap.size w w' := by
  have HX := Aside0.mk hx
  have HY := Aside0.mk hy
  have IH := Aside0.mk ih
  clear hx hy ih
  have H0 := Aside0.mk (And.intro hr0 hl0)
  have HM := Aside0.mk (And.intro hrm hlm)
  have H1 := Aside0.mk (And.intro hr1 hl1)
  have H2 := Aside0.mk (And.intro hr2 hl2)
  clear hr0 hl0 hrm hlm hr1 hl1 hr2 hl2
  go_enter Try.func14, Try.ntmps14
  go_wp2_with (first | (go_at_call 40; with_reducible refine (holds_holds k IH.out 0 _ w.heap.size (w.heap.size + 1) (w.heap.size + 1 + 1) B0 A1 A2 d0 c1 c2 m0 l1 l2 _ ?a1 ?a2 ?a3 ?a4 HM.out.2 ?a5 H1.out.2 ?a6 H2.out.2 HX.out).mono ?_; (case a1 => go_simp); (case a2 => go_simp); (case a3 => go_simp); (case a4 => exact Kd.C_below HM.out.1 (below_alloc (below_alloc (below_alloc (Below.refl _ _) _) _) _)); (case a5 => exact Kd.C_below H1.out.1 (below_alloc (below_alloc (below_alloc (Below.refl _ _) _) _) _)); (case a6 => exact Kd.C_below H2.out.1 (below_alloc (below_alloc (below_alloc (Below.refl _ _) _) _) _)); rintro e w1 ⟨rfl, hb⟩; have q0 : w1.cell? ⟨w.heap.size, 2, none⟩ = some (.slice B0 m0.length d0) := pw_cell_below hb (by go_simp); have q1 : w1.cell? ⟨w.heap.size + 1, 0, none⟩ = some (.slice A1 l1.length c1) := pw_cell_below hb (by go_simp); have q2 : w1.cell? ⟨w.heap.size + 1 + 1, 0, none⟩ = some (.slice A2 l2.length c2) := pw_cell_below hb (by go_simp); have HB := Aside0.mk (below_step (below_alloc (below_alloc (below_alloc (Below.refl _ _) _) _) _) hb); clear hb) | (go_at_call 40; with_reducible refine (holds_holds k IH.out 1 _ w.heap.size (w.heap.size + 1) (w.heap.size + 1 + 1) B0 A1 A2 d0 c1 c2 m0 l1 l2 _ q0 q1 q2 ?a4 HM.out.2 ?a5 H1.out.2 ?a6 H2.out.2 HY.out).mono ?_; (case a4 => exact Kd.C_below HM.out.1 HB.out); (case a5 => exact Kd.C_below H1.out.1 HB.out); (case a6 => exact Kd.C_below H2.out.1 HB.out); rintro e w2 ⟨rfl, hb2⟩; have HB2 := Aside0.mk (below_step HB.out hb2); clear hb2))
  go_ret
  exact ⟨rfl, HB2.out⟩
set_option maxHeartbeats 2000000 in
set_option maxRecDepth 100000 in
theorem holds_or_no (k : Nat) (ih : HoldsIH k) (y : Bool) (A0 : Option Addr) (c0 : Nat) (l0 : List S29) (B0 : Option Addr) (d0 : Nat) (m0 : List S34) (A1 : Option Addr) (c1 : Nat) (l1 : List Int) (A2 : Option Addr) (c2 : Nat) (l2 : List Int) (w : World) (hr0 : Kd.C k29 w A0 l0.length l0) (hl0 : l0.length ≤ c0) (hrm : Kd.C k34 w B0 m0.length m0) (hlm : m0.length ≤ d0) (hr1 : Kd.C (Kd.int .i64) w A1 l1.length l1) (hl1 : l1.length ≤ c1) (hr2 : Kd.C (Kd.int .i64) w A2 l2.length l2) (hl2 : l2.length ≤ c2) (hx : ((api_Cond.f m0 0).bind fun b => num_Holds.f k b.1 b.2.1 b.2.2 l1 l2) = some false) (hy : ((api_Cond.f m0 1).bind fun b => num_Holds.f k b.1 b.2.1 b.2.2 l1 l2) = some y) :
    Calls Try.prog 14 #[.agg #[.int .i64 7, .slice A0 l0.length c0, .slice B0 m0.length d0], .slice A1 l1.length c1, .slice A2 l2.length c2] w fun e w' => e = .returned (.bool (y)) ∧ Below w.heap.size w w' := by
  have HX := Aside0.mk hx
  have HY := Aside0.mk hy
  have IH := Aside0.mk ih
  clear hx hy ih
  have H0 := Aside0.mk (And.intro hr0 hl0)
  have HM := Aside0.mk (And.intro hrm hlm)
  have H1 := Aside0.mk (And.intro hr1 hl1)
  have H2 := Aside0.mk (And.intro hr2 hl2)
  clear hr0 hl0 hrm hlm hr1 hl1 hr2 hl2
  go_enter Try.func14, Try.ntmps14
  go_wp2_with (first | (go_at_call 40; with_reducible refine (holds_holds k IH.out 0 _ w.heap.size (w.heap.size + 1) (w.heap.size + 1 + 1) B0 A1 A2 d0 c1 c2 m0 l1 l2 _ ?a1 ?a2 ?a3 ?a4 HM.out.2 ?a5 H1.out.2 ?a6 H2.out.2 HX.out).mono ?_; (case a1 => go_simp); (case a2 => go_simp); (case a3 => go_simp); (case a4 => exact Kd.C_below HM.out.1 (below_alloc (below_alloc (below_alloc (Below.refl _ _) _) _) _)); (case a5 => exact Kd.C_below H1.out.1 (below_alloc (below_alloc (below_alloc (Below.refl _ _) _) _) _)); (case a6 => exact Kd.C_below H2.out.1 (below_alloc (below_alloc (below_alloc (Below.refl _ _) _) _) _)); rintro e w1 ⟨rfl, hb⟩; have q0 : w1.cell? ⟨w.heap.size, 2, none⟩ = some (.slice B0 m0.length d0) := pw_cell_below hb (by go_simp); have q1 : w1.cell? ⟨w.heap.size + 1, 0, none⟩ = some (.slice A1 l1.length c1) := pw_cell_below hb (by go_simp); have q2 : w1.cell? ⟨w.heap.size + 1 + 1, 0, none⟩ = some (.slice A2 l2.length c2) := pw_cell_below hb (by go_simp); have HB := Aside0.mk (below_step (below_alloc (below_alloc (below_alloc (Below.refl _ _) _) _) _) hb); clear hb) | (go_at_call 40; with_reducible refine (holds_holds k IH.out 1 _ w.heap.size (w.heap.size + 1) (w.heap.size + 1 + 1) B0 A1 A2 d0 c1 c2 m0 l1 l2 _ q0 q1 q2 ?a4 HM.out.2 ?a5 H1.out.2 ?a6 H2.out.2 HY.out).mono ?_; (case a4 => exact Kd.C_below HM.out.1 HB.out); (case a5 => exact Kd.C_below H1.out.1 HB.out); (case a6 => exact Kd.C_below H2.out.1 HB.out); rintro e w2 ⟨rfl, hb2⟩; have HB2 := Aside0.mk (below_step HB.out hb2); clear hb2))
  go_ret
  exact ⟨rfl, HB2.out⟩
set_option maxHeartbeats 2000000 in
set_option maxRecDepth 100000 in
theorem holds_true (k : Nat) (A0 : Option Addr) (c0 : Nat) (l0 : List S29) (B0 : Option Addr) (d0 : Nat) (m0 : List S34) (A1 : Option Addr) (c1 : Nat) (l1 : List Int) (A2 : Option Addr) (c2 : Nat) (l2 : List Int) (w : World) (hr0 : Kd.C k29 w A0 l0.length l0) (hl0 : l0.length ≤ c0) (hrm : Kd.C k34 w B0 m0.length m0) (hlm : m0.length ≤ d0) (hr1 : Kd.C (Kd.int .i64) w A1 l1.length l1) (hl1 : l1.length ≤ c1) (hr2 : Kd.C (Kd.int .i64) w A2 l2.length l2) (hl2 : l2.length ≤ c2) :
    Calls Try.prog 14 #[.agg #[.int .i64 1, .slice A0 l0.length c0, .slice B0 m0.length d0], .slice A1 l1.length c1, .slice A2 l2.length c2] w fun e w' => e = .returned (.bool (true)) ∧ Below w.heap.size w w' := by
  have H0 := Aside0.mk (And.intro hr0 hl0)
  have HM := Aside0.mk (And.intro hrm hlm)
  have H1 := Aside0.mk (And.intro hr1 hl1)
  have H2 := Aside0.mk (And.intro hr2 hl2)
  clear hr0 hl0 hrm hlm hr1 hl1 hr2 hl2
  go_enter Try.func14, Try.ntmps14
  go_wp2
  go_ret
  exact ⟨rfl, (below_alloc (below_alloc (below_alloc (Below.refl _ _) _) _) _)⟩
set_option maxHeartbeats 2000000 in
set_option maxRecDepth 100000 in
theorem holds_other (op : Int) (h : op < 1 ∨ 7 < op) (A0 : Option Addr) (c0 : Nat) (l0 : List S29) (B0 : Option Addr) (d0 : Nat) (m0 : List S34) (A1 : Option Addr) (c1 : Nat) (l1 : List Int) (A2 : Option Addr) (c2 : Nat) (l2 : List Int) (w : World) (hr0 : Kd.C k29 w A0 l0.length l0) (hl0 : l0.length ≤ c0) (hrm : Kd.C k34 w B0 m0.length m0) (hlm : m0.length ≤ d0) (hr1 : Kd.C (Kd.int .i64) w A1 l1.length l1) (hl1 : l1.length ≤ c1) (hr2 : Kd.C (Kd.int .i64) w A2 l2.length l2) (hl2 : l2.length ≤ c2) :
    Calls Try.prog 14 #[.agg #[.int .i64 op, .slice A0 l0.length c0, .slice B0 m0.length d0], .slice A1 l1.length c1, .slice A2 l2.length c2] w fun e w' => e = .returned (.bool (false)) ∧ Below w.heap.size w w' := by
  have e1 : (op == 1) = false := beq_eq_false_iff_ne.mpr (by omega)
  have e2 : (op == 2) = false := beq_eq_false_iff_ne.mpr (by omega)
  have e3 : (op == 3) = false := beq_eq_false_iff_ne.mpr (by omega)
  have e4 : (op == 4) = false := beq_eq_false_iff_ne.mpr (by omega)
  have e5 : (op == 5) = false := beq_eq_false_iff_ne.mpr (by omega)
  have e6 : (op == 6) = false := beq_eq_false_iff_ne.mpr (by omega)
  have e7 : (op == 7) = false := beq_eq_false_iff_ne.mpr (by omega)
  clear h
  have H0 := Aside0.mk (And.intro hr0 hl0)
  have HM := Aside0.mk (And.intro hrm hlm)
  have H1 := Aside0.mk (And.intro hr1 hl1)
  have H2 := Aside0.mk (And.intro hr2 hl2)
  clear hr0 hl0 hrm hlm hr1 hl1 hr2 hl2
  go_enter Try.func14, Try.ntmps14
  go_wp2
  go_ret
  exact ⟨rfl, (below_alloc (below_alloc (below_alloc (Below.refl _ _) _) _) _)⟩

theorem holds_all (k : Nat) : HoldsIH k := by
  induction k with
  | zero => intro _ _ _ _ _ _ _ _ _ _ _ _ _ _ _ _ _ _ _ _ _ _ _ h; simp [num_Holds.f] at h
  | succ k ih =>
    intro op A0 c0 l0 B0 d0 m0 A1 c1 l1 A2 c2 l2 r w hr0 hl0 hrm hlm hr1 hl1 hr2 hl2 h
    unfold num_Holds.f at h
    by_cases h1 : op = 1
    · rw [if_pos h1] at h
      obtain rfl := Option.some.inj h
      subst h1
      exact holds_true k A0 c0 l0 B0 d0 m0 A1 c1 l1 A2 c2 l2 w hr0 hl0 hrm hlm hr1 hl1 hr2 hl2
    rw [if_neg h1] at h
    by_cases h2 : op = 2
    · rw [if_pos h2] at h
      obtain ⟨x, hx, h⟩ := Option.bind_eq_some_iff.mp h
      obtain ⟨y, hy, h⟩ := Option.bind_eq_some_iff.mp h
      obtain rfl := Option.some.inj h
      subst h2
      exact holds_lt k x y A0 c0 l0 B0 d0 m0 A1 c1 l1 A2 c2 l2 w hr0 hl0 hrm hlm hr1 hl1 hr2 hl2 hx hy
    rw [if_neg h2] at h
    by_cases h3 : op = 3
    · rw [if_pos h3] at h
      obtain ⟨x, hx, h⟩ := Option.bind_eq_some_iff.mp h
      obtain ⟨y, hy, h⟩ := Option.bind_eq_some_iff.mp h
      obtain rfl := Option.some.inj h
      subst h3
      exact holds_le k x y A0 c0 l0 B0 d0 m0 A1 c1 l1 A2 c2 l2 w hr0 hl0 hrm hlm hr1 hl1 hr2 hl2 hx hy
    rw [if_neg h3] at h
    by_cases h4 : op = 4
    · rw [if_pos h4] at h
      obtain ⟨x, hx, h⟩ := Option.bind_eq_some_iff.mp h
      obtain ⟨y, hy, h⟩ := Option.bind_eq_some_iff.mp h
      obtain rfl := Option.some.inj h
      subst h4
      exact holds_eq k x y A0 c0 l0 B0 d0 m0 A1 c1 l1 A2 c2 l2 w hr0 hl0 hrm hlm hr1 hl1 hr2 hl2 hx hy
    rw [if_neg h4] at h
    by_cases h5 : op = 5
    · rw [if_pos h5] at h
      obtain ⟨x, hx, h⟩ := Option.bind_eq_some_iff.mp h
      obtain rfl := Option.some.inj h
      subst h5
      exact holds_not k ih x A0 c0 l0 B0 d0 m0 A1 c1 l1 A2 c2 l2 w hr0 hl0 hrm hlm hr1 hl1 hr2 hl2 hx
    rw [if_neg h5] at h
    by_cases h6 : op = 6
    · rw [if_pos h6] at h
      obtain ⟨x, hx, h⟩ := Option.bind_eq_some_iff.mp h
      subst h6
      cases x with
      | true => exact holds_and_yes k ih r A0 c0 l0 B0 d0 m0 A1 c1 l1 A2 c2 l2 w hr0 hl0 hrm hlm hr1 hl1 hr2 hl2 hx (by simpa using h)
      | false =>
        obtain rfl : false = r := by simpa using h
        exact holds_and_no k ih A0 c0 l0 B0 d0 m0 A1 c1 l1 A2 c2 l2 w hr0 hl0 hrm hlm hr1 hl1 hr2 hl2 hx
    rw [if_neg h6] at h
    by_cases h7 : op = 7
    · rw [if_pos h7] at h
      obtain ⟨x, hx, h⟩ := Option.bind_eq_some_iff.mp h
      subst h7
      cases x with
      | false => exact holds_or_no k ih r A0 c0 l0 B0 d0 m0 A1 c1 l1 A2 c2 l2 w hr0 hl0 hrm hlm hr1 hl1 hr2 hl2 hx (by simpa using h)
      | true =>
        obtain rfl : true = r := by simpa using h
        exact holds_or_yes k ih A0 c0 l0 B0 d0 m0 A1 c1 l1 A2 c2 l2 w hr0 hl0 hrm hlm hr1 hl1 hr2 hl2 hx
    rw [if_neg h7] at h
    obtain rfl := Option.some.inj h
    exact holds_other op (by omega) A0 c0 l0 B0 d0 m0 A1 c1 l1 A2 c2 l2 w hr0 hl0 hrm hlm hr1 hl1 hr2 hl2
theorem num_Holds.calls (k : Nat) (a0_0 : Int) (A0_1 : Option Addr) (c0_1 : Nat) (l0_1 : List S29) (A0_2 : Option Addr) (c0_2 : Nat) (l0_2 : List S34) (A1 : Option Addr) (c1 : Nat) (l1 : List Int) (A2 : Option Addr) (c2 : Nat) (l2 : List Int) (r : Bool) (w : World) (hr0_1 : Kd.C k29 w A0_1 l0_1.length l0_1) (hc0_1 : l0_1.length ≤ c0_1) (hr0_2 : Kd.C k34 w A0_2 l0_2.length l0_2) (hc0_2 : l0_2.length ≤ c0_2) (hr1 : Kd.C (Kd.int .i64) w A1 l1.length l1) (hc1 : l1.length ≤ c1) (hr2 : Kd.C (Kd.int .i64) w A2 l2.length l2) (hc2 : l2.length ≤ c2) (h : num_Holds.f k a0_0 l0_1 l0_2 l1 l2 = some r) :
    Calls Try.prog 14 #[.agg #[.int .i64 a0_0, .slice A0_1 l0_1.length c0_1, .slice A0_2 l0_2.length c0_2], .slice A1 l1.length c1, .slice A2 l2.length c2] w fun e w' => e = .returned (.bool r) ∧ Below w.heap.size w w' :=
  holds_all k a0_0 A0_1 c0_1 l0_1 A0_2 c0_2 l0_2 A1 c1 l1 A2 c2 l2 r w hr0_1 hc0_1 hr0_2 hc0_2 hr1 hc1 hr2 hc2 h


/-! ### num_operands: function 54 -/
def num_operands.f (a0_0 : Int) (a0_1 : Int) (a0_2 : Int) (l0_3 : List (S29)) : Option ((List (S29))) := (num_binary.f a0_0).bind fun t130 => (if t130 = true then (if 0 ≤ (mn (l0_3.length : Int) 2) then (if (mn (l0_3.length : Int) 2) ≤ (l0_3.length : Int) then (some (l0_3.take ((mn (l0_3.length : Int) 2) : Int).toNat)) else (none)) else (none)) else (some ([] : List (S29))))
set_option maxHeartbeats 8000000 in
set_option maxRecDepth 100000 in
theorem num_operands.calls (a0_0 : Int) (a0_1 : Int) (a0_2 : Int) (P0_3_ : Nat → Prop) (A0_3 : Option Addr) (c0_3 : Nat) (l0_3 : List (S29)) (r : List (S29)) (w : World) (hs0_3 : Kd.V k29 29 w w.heap.size (fun k_ => P0_3_ k_) (.slice A0_3 l0_3.length c0_3) l0_3) (h : num_operands.f a0_0 a0_1 a0_2 l0_3 = some r) :
    Calls Try.prog 54 #[.agg #[.int .i64 a0_0, .int .i64 a0_1, .int .i64 a0_2, .slice A0_3 l0_3.length c0_3]] w fun e w' => ∃ v0_ : Value, e = .returned (v0_) ∧ Kd.V k29 29 w' w.heap.size (fun k_ => (P0_3_ k_ ∨ w.heap.size ≤ k_)) v0_ r ∧ Below w.heap.size w w' := by
  have hu29 := Try.underlying29
  have HO0_3 := Aside0.mk (show Kd.V k29 29 w w.heap.size (fun k_ => (P0_3_ k_ ∨ w.heap.size ≤ k_)) (.slice A0_3 l0_3.length c0_3) l0_3 from Kd.V_mono hs0_3 (fun k_ hk => .inl hk))
  have HB := Aside0.mk (Below.refl w.heap.size w)
  have H : ((num_binary.f a0_0).bind fun t130 => (if t130 = true then (if 0 ≤ (mn (l0_3.length : Int) 2) then (if (mn (l0_3.length : Int) 2) ≤ (l0_3.length : Int) then (some (l0_3.take ((mn (l0_3.length : Int) 2) : Int).toNat)) else (none)) else (none)) else (some ([] : List (S29))))) = some r := h
  clear h
  replace H := Option.bind_eq_some_iff.mp H
  obtain ⟨t130, A20, H⟩ := H
  replace H : (if t130 = true then (if 0 ≤ (mn (l0_3.length : Int) 2) then (if (mn (l0_3.length : Int) 2) ≤ (l0_3.length : Int) then (some (l0_3.take ((mn (l0_3.length : Int) 2) : Int).toNat)) else (none)) else (none)) else (some ([] : List (S29)))) = some r := H
  have A2 := Aside0.mk A20
  clear A20
  by_cases c3 : t130 = true
  · subst c3
    have H1 : (if 0 ≤ (mn (l0_3.length : Int) 2) then (if (mn (l0_3.length : Int) 2) ≤ (l0_3.length : Int) then (some (l0_3.take ((mn (l0_3.length : Int) 2) : Int).toNat)) else (none)) else (none)) = some r := by rw [if_pos rfl] at H; exact H
    clear H
    have H := H1
    clear H1
    obtain ⟨ji4, hji4⟩ : ∃ j_ : Int, (mn (l0_3.length : Int) 2) = j_ := ⟨_, rfl⟩
    replace H : (if 0 ≤ (ji4) then (if (ji4) ≤ (l0_3.length : Int) then (some (l0_3.take ((ji4) : Int).toNat)) else (none)) else (none)) = some r := by first | (rw [hji4] at H; exact H) | (simp only [hji4] at H ⊢; exact H)
    (try rw [hji4] at A2)
    (try (have hji4h : ji4 ≤ 2 := by (rw [← hji4]; unfold mn; (repeat' split) <;> omega)))
    (try (have hji4g : ji4 ≤ 64 := by omega))
    (try (have hji4l : 0 ≤ ji4 := by (rw [← hji4]; unfold mn; (repeat' split) <;> omega)))
    (try (have hji4m : 0 ≤ ji4 := by omega))
    have hji4_ : (if 2 < (l0_3.length : Int) then 2 else (l0_3.length : Int)) = ji4 := hji4
    by_cases c5 : 0 ≤ (ji4)
    · rw [if_pos c5] at H
      have c5b0 := eq_true c5
      have c5b1 : decide (0 ≤ (ji4)) = true := decide_eq_true c5
      clear c5
      by_cases c6 : (ji4) ≤ (l0_3.length : Int)
      · rw [if_pos c6] at H
        have c6b0 := eq_true c6
        have c6b1 : decide ((ji4) ≤ (l0_3.length : Int)) = true := decide_eq_true c6
        clear c6
        obtain ⟨y131, hy131⟩ : ∃ y_ : List (S29), y_ = (l0_3.take ((ji4) : Int).toNat) := ⟨_, rfl⟩
        replace H : (some y131) = some r := by first | (rw [hy131]; with_reducible exact H) | (have H2_ := (Option.bind_some _ _).symm.trans H; rw [hy131]; with_reducible exact H2_) | (have H2_ := (Option.bind_some _ _).symm.trans H; with_reducible exact H2_) | with_reducible exact H | (rw [hy131]; exact H) | exact H
        have Ny131 := Aside0.mk hy131
        clear hy131
        obtain rfl := Option.some.inj H
        go_enter Try.func54, Try.ntmps54
        go_wp2_with (first | ((with_reducible refine gate_dst (N := 1) rfl ?_); refine box_event ?hg (N := 1) ?hd (cs := #[.int .i64 a0_0, .int .i64 a0_1, .int .i64 a0_2, .slice A0_3 l0_3.length c0_3]) (t := 29) ?hr ?_; (case hd => rfl); (case hg => rfl); (case hr => first | (go_simp; done) | (go_simp; rfl)); intro gb129 hg w7 hbox hb; have n0_ := Aside0.mk (Kd.V_below (Kd.V_elderB (by (with_reducible repeat (first | apply Kd.V_alloc | apply Kd.V_drewN | apply Kd.V_drew)); exact HO0_3.out) gb129 (Nat.le_of_eq hg.symm)) hb); have n1_ := Aside0.mk (below_step (by repeat (first | (with_reducible first | exact HB.out | apply below_alloc | apply pw_below_drewN | apply below_drew1) | exact HB.out)) hb); have n2_ := Aside0.mk (hbox); have n3_ := Aside0.mk ((by rw [hg]; exact (below_size (by repeat (first | (with_reducible first | exact HB.out | apply below_alloc | apply pw_below_drewN | apply below_drew1) | exact HB.out))) : w.heap.size ≤ gb129)); have n4_ := Aside0.mk ((by rw [hg]; exact (below_size (by repeat (first | (with_reducible first | exact HB.out | apply below_alloc | apply pw_below_drewN | apply below_drew1) | exact HB.out))) : w.heap.size ≤ gb129)); clear HO0_3; clear HB; have HO0_3 := n0_; have HB := n1_; have BK129 := n2_; have GW129 := n3_; have GE129 := n4_; clear n0_ n1_ n2_ n3_ n4_; clear hb hbox hg; have hcz8_0 : w7.cell? ⟨gb129, 0, none⟩ = some (.int .i64 a0_0) := (blk_cell BK129.out 0).trans rfl; have hcz8_1 : w7.cell? ⟨gb129, 1, none⟩ = some (.int .i64 a0_1) := (blk_cell BK129.out 1).trans rfl; have hcz8_2 : w7.cell? ⟨gb129, 2, none⟩ = some (.int .i64 a0_2) := (blk_cell BK129.out 2).trans rfl; have hcz8_3 : w7.cell? ⟨gb129, 3, none⟩ = some (.slice A0_3 l0_3.length c0_3) := (blk_cell BK129.out 3).trans rfl; have hfz8_0 := blk_frozen BK129.out 0; have hfz8_1 := blk_frozen BK129.out 1; have hfz8_2 := blk_frozen BK129.out 2; have hfz8_3 := blk_frozen BK129.out 3) | ((with_reducible refine gate_callee (f := 43) rfl ?_); refine goesL_ (some 5) rfl rfl Try.func43 (by kernel_rfl) rfl #[.int .i64 a0_0] rfl (by (try simp only [List.map_toArray, List.map_cons, List.map_nil]); first | done | rfl | (simp only [List.length_drop, List.length_take]; rfl)) ?_; (with_reducible refine (num_binary.calls a0_0 true _ A2.out).mono ?_); rintro e w' ⟨rfl, ⟨nd, rfl⟩⟩; refine ⟨_, rfl, ?_⟩; have q9 : ((ji4) : Int) ≤ ((l0_3.length : Int) : Int) := of_decide_eq_true (by first | (with_reducible assumption) | assumption); obtain ⟨i09, hi09, _, hsz9, _⟩ := info_parts info29; have hroom9 : l0_3.length ≤ c0_3 := (Kd.V_reads' HO0_3.out).2.1; have hC9 : Kd.F k29 _ _ A0_3 l0_3.length l0_3 := (Kd.V_at (base := w.heap.size) HO0_3.out).2.2; have hcut9 := cut_to (P := Try.prog) 27 29 .i64 Try.underlying27 hi09 A0_3 l0_3.length c0_3 (ji4) (of_decide_eq_true (by first | (with_reducible assumption) | assumption)) q9 hroom9; have hr9 := Kd.F_take (m := ((ji4) : Int).toNat) hC9 (by omega); have hy9 : y131.length = ((ji4) : Int).toNat := (by rw [Ny131.out, List.length_take]; omega); rw [← Ny131.out] at hr9; rw [← hy9] at hcut9; have HO135 := Aside0.mk (show Kd.V k29 29 _ w.heap.size _ (.slice A0_3 y131.length c0_3) y131 from Kd.V_mk (by omega) hr9); have HC135 := Aside0.mk (show y131.length ≤ c0_3 from by omega); clear hr9 hC9 hroom9 hi09 hsz9; have KY9 := Aside0.mk hy9; clear hy9; replace q9 := eq_true q9))
        go_ret
        exact ⟨_, by first | rfl | (simp [errW_none, errW_some] <;> rfl) | (simp only [← hji4]; first | rfl | (simp [errW_none, errW_some] <;> rfl)) | (simp [*, errW_none, errW_some] <;> rfl), by (with_reducible repeat (first | apply Kd.V_alloc | apply Kd.V_drewN | apply Kd.V_drew)); exact Kd.V_mono HO135.out (fun _ hk => hk.1), by repeat (first | (with_reducible first | exact HB.out | apply below_alloc | apply pw_below_drewN | apply below_drew1 | refine below_set ?_ GE129.out) | exact HB.out)⟩
      · rw [if_neg c6] at H
        exact absurd H (by simp)
    · rw [if_neg c5] at H
      exact absurd H (by simp)
  · replace c3 := Bool.eq_false_iff.mpr c3
    subst c3
    have H1 : (some ([] : List (S29))) = some r := by rw [if_neg (show ¬ (false = true) by decide)] at H; exact H
    clear H
    have H := H1
    clear H1
    obtain rfl := Option.some.inj H
    go_enter Try.func54, Try.ntmps54
    go_wp2_with (first | ((with_reducible refine gate_dst (N := 1) rfl ?_); refine box_event ?hg (N := 1) ?hd (cs := #[.int .i64 a0_0, .int .i64 a0_1, .int .i64 a0_2, .slice A0_3 l0_3.length c0_3]) (t := 29) ?hr ?_; (case hd => rfl); (case hg => rfl); (case hr => first | (go_simp; done) | (go_simp; rfl)); intro gb129 hg w10 hbox hb; have n0_ := Aside0.mk (Kd.V_below (Kd.V_elderB (by (with_reducible repeat (first | apply Kd.V_alloc | apply Kd.V_drewN | apply Kd.V_drew)); exact HO0_3.out) gb129 (Nat.le_of_eq hg.symm)) hb); have n1_ := Aside0.mk (below_step (by repeat (first | (with_reducible first | exact HB.out | apply below_alloc | apply pw_below_drewN | apply below_drew1) | exact HB.out)) hb); have n2_ := Aside0.mk (hbox); have n3_ := Aside0.mk ((by rw [hg]; exact (below_size (by repeat (first | (with_reducible first | exact HB.out | apply below_alloc | apply pw_below_drewN | apply below_drew1) | exact HB.out))) : w.heap.size ≤ gb129)); have n4_ := Aside0.mk ((by rw [hg]; exact (below_size (by repeat (first | (with_reducible first | exact HB.out | apply below_alloc | apply pw_below_drewN | apply below_drew1) | exact HB.out))) : w.heap.size ≤ gb129)); clear HO0_3; clear HB; have HO0_3 := n0_; have HB := n1_; have BK129 := n2_; have GW129 := n3_; have GE129 := n4_; clear n0_ n1_ n2_ n3_ n4_; clear hb hbox hg; have hcz11_0 : w10.cell? ⟨gb129, 0, none⟩ = some (.int .i64 a0_0) := (blk_cell BK129.out 0).trans rfl; have hcz11_1 : w10.cell? ⟨gb129, 1, none⟩ = some (.int .i64 a0_1) := (blk_cell BK129.out 1).trans rfl; have hcz11_2 : w10.cell? ⟨gb129, 2, none⟩ = some (.int .i64 a0_2) := (blk_cell BK129.out 2).trans rfl; have hcz11_3 : w10.cell? ⟨gb129, 3, none⟩ = some (.slice A0_3 l0_3.length c0_3) := (blk_cell BK129.out 3).trans rfl; have hfz11_0 := blk_frozen BK129.out 0; have hfz11_1 := blk_frozen BK129.out 1; have hfz11_2 := blk_frozen BK129.out 2; have hfz11_3 := blk_frozen BK129.out 3) | ((with_reducible refine gate_callee (f := 43) rfl ?_); refine goesL_ (some 5) rfl rfl Try.func43 (by kernel_rfl) rfl #[.int .i64 a0_0] rfl (by (try simp only [List.map_toArray, List.map_cons, List.map_nil]); first | done | rfl | (simp only [List.length_drop, List.length_take]; rfl)) ?_; (with_reducible refine (num_binary.calls a0_0 false _ A2.out).mono ?_); rintro e w' ⟨rfl, ⟨nd, rfl⟩⟩; refine ⟨_, rfl, ?_⟩))
    go_ret
    exact ⟨_, by first | rfl | (simp [errW_none, errW_some] <;> rfl) | (simp [*, errW_none, errW_some] <;> rfl), (by first | exact Kd.V_nil _ _ _ _ _ | (simp; exact Kd.V_nil _ _ _ _ _)), by repeat (first | (with_reducible first | exact HB.out | apply below_alloc | apply pw_below_drewN | apply below_drew1 | refine below_set ?_ GE129.out) | exact HB.out)⟩

/-! ### num_Depth: function 30 -/
mutual
def num_Depth.l0 : Nat → Int → List (S29) → Int → Int → Option (Int)
  | 0, _, _, _, _ => none
  | k + 1, x3, x7, x8, x9 => if x9 < x8 then (if 0 ≤ x9 then (if x9 < (x7.length : Int) then ((num_Depth.f k ((rd_T29 x7 x9).f0) ((rd_T29 x7 x9).f1) ((rd_T29 x7 x9).f2) ((rd_T29 x7 x9).f3)).bind fun t142 => (num_Depth.l0 k (mx x3 t142) x7 x8 (wrap64 (x9 + 1)))) else (none)) else (none)) else (some (wrap64 (x3 + 1)))
def num_Depth.f : Nat → Int → Int → Int → List (S29) → Option (Int)
  | 0, _, _, _, _ => none
  | k + 1, a0_0, a0_1, a0_2, l0_3 => (num_operands.f a0_0 a0_1 a0_2 l0_3).bind fun t137 => (num_Depth.l0 k 0 t137 (t137.length : Int) 0)
end
theorem num_Depth.mono_l : ∀ k, (∀ y0 y1 y2 y3, LeO (num_Depth.f k y0 y1 y2 y3) (num_Depth.f (k + 1) y0 y1 y2 y3)) ∧ (∀ y0 y1 y2 y3, LeO (num_Depth.l0 k y0 y1 y2 y3) (num_Depth.l0 (k + 1) y0 y1 y2 y3))
  | 0 => ⟨fun _ _ _ _ r h => by simp [num_Depth.f] at h, fun _ _ _ _ r h => by simp [num_Depth.l0] at h⟩
  | k + 1 => by
    obtain ⟨ih0, ih1⟩ := num_Depth.mono_l k
    refine ⟨?_, ?_⟩
    · intro y0 y1 y2 y3
      unfold num_Depth.f
      repeat' first
      | (with_reducible exact ih0 _ _ _ _)
      | (with_reducible exact ih1 _ _ _ _)
      | (with_reducible exact LeO.refl _)
      | (with_reducible exact LeO.none _)
      | (with_reducible refine LeO.ite ?_ ?_)
      | (with_reducible refine LeO.bind ?_ (fun _ => ?_))
      | exact ih0 _ _ _ _
      | exact ih1 _ _ _ _
      | exact LeO.none _
      | refine LeO.ite ?_ ?_
      | refine LeO.bind ?_ (fun _ => ?_)
    · intro y0 y1 y2 y3
      unfold num_Depth.l0
      repeat' first
      | (with_reducible exact ih0 _ _ _ _)
      | (with_reducible exact ih1 _ _ _ _)
      | (with_reducible exact LeO.refl _)
      | (with_reducible exact LeO.none _)
      | (with_reducible refine LeO.ite ?_ ?_)
      | (with_reducible refine LeO.bind ?_ (fun _ => ?_))
      | exact ih0 _ _ _ _
      | exact ih1 _ _ _ _
      | exact LeO.none _
      | refine LeO.ite ?_ ?_
      | refine LeO.bind ?_ (fun _ => ?_)
theorem num_Depth.mono : ∀ a0 a1 a2 a3 k, LeO (num_Depth.f k a0 a1 a2 a3) (num_Depth.f (k + 1) a0 a1 a2 a3) := by
  intro a0 a1 a2 a3 k
  obtain ⟨ih0, ih1⟩ := num_Depth.mono_l k
  exact ih0 a0 a1 a2 a3
set_option maxHeartbeats 8000000 in
set_option maxRecDepth 100000 in
theorem num_Depth.calls (k : Nat) : ∀ (a0_0 : Int) (a0_1 : Int) (a0_2 : Int) (A0_3 : Option Addr) (c0_3 : Nat) (l0_3 : List (S29)) (r : Int) (w : World) (hr0_3 : Kd.C k29 w A0_3 l0_3.length l0_3) (hc0_3 : l0_3.length ≤ c0_3) (h : num_Depth.f k a0_0 a0_1 a0_2 l0_3 = some r),
    Calls Try.prog 30 #[.agg #[.int .i64 a0_0, .int .i64 a0_1, .int .i64 a0_2, .slice A0_3 l0_3.length c0_3]] w fun e w' => e = .returned (.int .i64 r) ∧ Below w.heap.size w w' := by
  induction k using Nat.strongRecOn with
  | _ k ih =>
  intro a0_0 a0_1 a0_2 A0_3 c0_3 l0_3 r w hr0_3 hc0_3 h
  cases k with
  | zero => exact absurd h (by simp [num_Depth.f])
  | succ k =>
  simp only [num_Depth.f] at h
  have hu29 := Try.underlying29
  have HR0_3 := Aside0.mk hr0_3
  have HC0_3 := Aside0.mk hc0_3
  clear hr0_3 hc0_3
  have HB := Aside0.mk (Below.refl w.heap.size w)
  have H : ((num_operands.f a0_0 a0_1 a0_2 l0_3).bind fun t137 => (num_Depth.l0 k 0 t137 (t137.length : Int) 0)) = some r := h
  clear h
  replace H := Option.bind_eq_some_iff.mp H
  obtain ⟨t137, A20, H⟩ := H
  replace H : (num_Depth.l0 k 0 t137 (t137.length : Int) 0) = some r := H
  have A2 := Aside0.mk A20
  clear A20
  have H' := Aside0.mk H
  clear H
  go_enter Try.func30, Try.ntmps30
  go_wp2_with (first | ((with_reducible refine gate_dst (N := 1) rfl ?_); refine box_event ?hg (N := 1) ?hd (cs := #[.int .i64 a0_0, .int .i64 a0_1, .int .i64 a0_2, .slice A0_3 l0_3.length c0_3]) (t := 29) ?hr ?_; (case hd => rfl); (case hg => rfl); (case hr => first | (go_simp; done) | (go_simp; rfl)); intro gb136 hg w3 hbox hb; have n0_ := Aside0.mk (below_step (by repeat (first | (with_reducible first | exact HB.out | apply below_alloc | apply pw_below_drewN | apply below_drew1) | exact HB.out)) hb); have n1_ := Aside0.mk (hbox); have n2_ := Aside0.mk ((by rw [hg]; exact (below_size (by repeat (first | (with_reducible first | exact HB.out | apply below_alloc | apply pw_below_drewN | apply below_drew1) | exact HB.out))) : w.heap.size ≤ gb136)); have n3_ := Aside0.mk ((by rw [hg]; exact (below_size (by repeat (first | (with_reducible first | exact HB.out | apply below_alloc | apply pw_below_drewN | apply below_drew1) | exact HB.out))) : w.heap.size ≤ gb136)); clear HB; have HB := n0_; have BK136 := n1_; have GW136 := n2_; have GE136 := n3_; clear n0_ n1_ n2_ n3_; clear hb hbox hg; have hcz4_0 : w3.cell? ⟨gb136, 0, none⟩ = some (.int .i64 a0_0) := (blk_cell BK136.out 0).trans rfl; have hcz4_1 : w3.cell? ⟨gb136, 1, none⟩ = some (.int .i64 a0_1) := (blk_cell BK136.out 1).trans rfl; have hcz4_2 : w3.cell? ⟨gb136, 2, none⟩ = some (.int .i64 a0_2) := (blk_cell BK136.out 2).trans rfl; have hcz4_3 : w3.cell? ⟨gb136, 3, none⟩ = some (.slice A0_3 l0_3.length c0_3) := (blk_cell BK136.out 3).trans rfl; have hfz4_0 := blk_frozen BK136.out 0; have hfz4_1 := blk_frozen BK136.out 1; have hfz4_2 := blk_frozen BK136.out 2; have hfz4_3 := blk_frozen BK136.out 3) | ((with_reducible refine gate_callee (f := 54) rfl ?_); refine goesL_ (some 7) rfl rfl Try.func54 (by kernel_rfl) rfl #[.agg #[.int .i64 a0_0, .int .i64 a0_1, .int .i64 a0_2, .slice A0_3 l0_3.length c0_3]] rfl (by (try simp only [List.map_toArray, List.map_cons, List.map_nil]); first | done | rfl | (simp only [List.length_drop, List.length_take]; rfl)) ?_; (with_reducible refine (num_operands.calls a0_0 a0_1 a0_2 (fun k_ => k_ < w.heap.size) _ _ l0_3 t137 _ ?side1 A2.out).mono ?_); (case side1 => exact Kd.V_mk HC0_3.out (Kd.F_below (Kd.C_F k29_heap HR0_3.out) (by repeat (first | (with_reducible first | exact HB.out | apply below_alloc | apply pw_below_drewN | apply below_drew1 | refine below_set ?_ GE136.out) | exact HB.out)))); rintro e w5 ⟨v138, rfl, ho0, hb⟩; refine ⟨_, rfl, ?_⟩; have n0_ := Aside0.mk (Kd.V_lower (Kd.V_mono (ok' := fun k_ => k_ ≠ gb136) ho0 (fun k_ hk_ => Or.elim hk_ (fun hs_ => fun e_ => Nat.not_le.2 hs_ (by rw [e_]; exact GW136.out)) (fun hn_ => (Kd.freshB (g := gb136) (o := .cells #[.int .i64 a0_0, .int .i64 a0_1, .int .i64 a0_2, .slice A0_3 l0_3.length c0_3] 29 (0, 0)) (by (with_reducible repeat (first | refine blk_drewN ?_ _ | refine blk_drew ?_ | refine blk_alloc ?_ _)); exact BK136.out) k_ hn_)))) (below_size (by repeat (first | (with_reducible first | exact HB.out | apply below_alloc | apply pw_below_drewN | apply below_drew1 | refine below_set ?_ GE136.out) | exact HB.out)))); have n1_ := Aside0.mk (blk_below (g := gb136) (o := .cells #[.int .i64 a0_0, .int .i64 a0_1, .int .i64 a0_2, .slice A0_3 l0_3.length c0_3] 29 (0, 0)) (by (with_reducible repeat (first | refine blk_drewN ?_ _ | refine blk_drew ?_ | refine blk_alloc ?_ _)); exact BK136.out) hb); have n2_ := Aside0.mk (below_step (by repeat (first | (with_reducible first | exact HB.out | apply below_alloc | apply pw_below_drewN | apply below_drew1 | refine below_set ?_ GE136.out) | exact HB.out)) hb); clear BK136; clear HB; have HO139 := n0_; have BK136 := n1_; have HB := n2_; clear n0_ n1_ n2_; (try clear hb); (try clear hb2); (try clear hk); (try clear hi); (try clear ho0); obtain ⟨Ao6, co6, eo6⟩ := Kd.V_slice HO139.out; subst eo6))
  go_loopg [3, 9] k (fun kq v3 v9 w' => ∃ (x3_1 : Int) (x9_1 : Int), v3 = .int .i64 x3_1 ∧ v9 = .int .i64 x9_1 ∧ Aside0 (num_Depth.l0 kq x3_1 t137 (t137.length : Int) x9_1 = some r) ∧ Aside0 (kq ≤ k) ∧ Aside0 (Kd.V k29 29 w' w.heap.size (fun k_ => k_ ≠ gb136) (.slice Ao6 t137.length co6) t137) ∧ Aside0 (w'.heap[gb136]? = some (.cells #[.int .i64 a0_0, .int .i64 a0_1, .int .i64 a0_2, (.slice A0_3 l0_3.length c0_3)] 29 (0, 0))) ∧ Aside0 (Below w.heap.size w w'))
  case atStart => exact ⟨(0), (0), (by first | rfl | (simp; done) | (simp [*]; done)), (by first | rfl | (simp; done) | (simp [*]; done)), H', ⟨Nat.le_refl _⟩, ⟨by (with_reducible repeat (first | apply Kd.V_alloc | apply Kd.V_drewN | apply Kd.V_drew)); exact HO139.out⟩, ⟨by (with_reducible repeat (first | refine blk_drewN ?_ _ | refine blk_drew ?_ | refine blk_alloc ?_ _)); exact BK136.out⟩, ⟨by repeat (first | (with_reducible first | exact HB.out | apply below_alloc | apply pw_below_drewN | apply below_drew1 | refine below_set ?_ GE136.out) | exact HB.out)⟩⟩
  case round =>
    clear H'
    try clear p2
    try clear c3
    try clear c5
    try clear hcz4_0
    try clear hcz4_1
    try clear hcz4_2
    try clear hcz4_3
    try clear hfz4_0
    try clear hfz4_1
    try clear hfz4_2
    try clear hfz4_3
    obtain ⟨x3_1, x9_1, rfl, rfl, HA, HK1, HO_7, BK136, HB⟩ := hrel
    cases gk with
    | zero => exact absurd HA.out (by simp [num_Depth.l0])
    | succ k1 =>
      have H := HA.out
      clear HA
      simp only [num_Depth.l0] at H
      by_cases c7 : x9_1 < (t137.length : Int)
      · rw [if_pos c7] at H
        have c7b0 : decide (x9_1 < (t137.length : Int)) = true := decide_eq_true c7
        clear c7
        by_cases c8 : 0 ≤ x9_1
        · rw [if_pos c8] at H
          have c8b0 : decide (0 ≤ x9_1) = true := decide_eq_true c8
          clear c8
          by_cases c9 : x9_1 < (t137.length : Int)
          · rw [if_pos c9] at H
            have c9b0 : decide (x9_1 < (t137.length : Int)) = true := decide_eq_true c9
            clear c9
            replace H := Option.bind_eq_some_iff.mp H
            obtain ⟨t142, A100, H⟩ := H
            replace H : (num_Depth.l0 k1 (mx x3_1 t142) t137 (t137.length : Int) (wrap64 (x9_1 + 1))) = some r := H
            have A10 := Aside0.mk A100
            clear A100
            obtain ⟨ji11, hji11⟩ : ∃ j_ : Int, (mx x3_1 t142) = j_ := ⟨_, rfl⟩
            replace H : (num_Depth.l0 k1 ji11 t137 (t137.length : Int) (wrap64 (x9_1 + 1))) = some r := by first | (rw [hji11] at H; exact H) | (simp only [hji11] at H ⊢; exact H)
            (try rw [hji11] at A10)
            have hji11_ : (if x3_1 < t142 then t142 else x3_1) = ji11 := hji11
            have H' := Aside0.mk H
            clear H
            have p140 : 0 ≤ (x9_1 : Int) := of_decide_eq_true (by first | (with_reducible assumption) | assumption)
            have q140 : x9_1 < (t137.length : Int) := of_decide_eq_true (by first | (with_reducible assumption) | assumption)
            obtain ⟨ad140, A140_3, c140_3, e140, hx140_0, hx140_1, hx140_2, hx140_3, hl140_3, hi140_3⟩ := at_T29 (Kd.V_reads' HO_7.out).2.2 x9_1 p140 q140
            cases e140
            obtain ⟨ce140, hce140, hMe140, hcc140⟩ := Kd.V_get HO_7.out z29 x9_1 p140 (by first | exact q140 | exact of_decide_eq_true (by first | (with_reducible assumption) | assumption) | (have e_ := (Kd.V_reads' HO_7.out).1; omega))
            obtain ⟨ua140_3, uc140_3, rfl, ul140_3, ge140_3⟩ := k29_openF hMe140
            have hv140_3 := hcc140 3 _ rfl
            rw [add_field _ _ 3 (by omega)] at hv140_3
            replace hv140_3 := Option.some.inj (hv140_3.symm.trans hx140_3)
            injection hv140_3 with hva_ hvn_ hvc_
            rw [hva_] at ge140_3
            rw [hvc_] at ul140_3
            have HL140_3 := Aside0.mk (show Kd.V k29 29 _ w.heap.size _ _ ((rd_T29 t137 x9_1).f3) from Kd.V_mk ul140_3 ge140_3)
            clear hva_ hvn_ hvc_ ge140_3 ul140_3
            clear hcc140 hce140
            have HR140_3 := Aside0.mk hi140_3
            have HC140_3 := Aside0.mk hl140_3
            clear hi140_3 hl140_3
            replace p140 := eq_true p140
            replace q140 := eq_true q140
            go_wp2_with (first | ((with_reducible refine gate_dst (N := 5) rfl ?_); refine box_event ?hg (N := 5) ?hd (cs := #[.int .i64 0, .int .i64 0, .int .i64 0, .slice none 0 0]) (t := 29) ?hr ?_; (case hd => rfl); (case hg => rfl); (case hr => first | (go_simp; done) | (go_simp; rfl)); intro gb141 hg w12 hbox hb; have n0_ := Aside0.mk (Kd.V_below (Kd.V_elderB (by (with_reducible repeat (first | apply Kd.V_alloc | apply Kd.V_drewN | apply Kd.V_drew)); exact HO_7.out) gb141 (Nat.le_of_eq hg.symm)) hb); have n1_ := Aside0.mk (Kd.V_below (Kd.V_elderB (by (with_reducible repeat (first | apply Kd.V_alloc | apply Kd.V_drewN | apply Kd.V_drew)); exact HL140_3.out) gb141 (Nat.le_of_eq hg.symm)) hb); have n2_ := Aside0.mk (blk_below (g := gb136) (o := .cells #[.int .i64 a0_0, .int .i64 a0_1, .int .i64 a0_2, .slice A0_3 l0_3.length c0_3] 29 (0, 0)) (by (with_reducible repeat (first | refine blk_drewN ?_ _ | refine blk_drew ?_ | refine blk_alloc ?_ _)); exact BK136.out) hb); have n3_ := Aside0.mk (Kd.C_below (by repeat (first | (with_reducible exact HR140_3.out) | (with_reducible refine Kd.C_alloc ?_ _) | (with_reducible refine Kd.C_drewN ?_ _) | (with_reducible refine Kd.C_drew ?_) | exact HR140_3.out)) hb); have n4_ := Aside0.mk (below_step (by repeat (first | (with_reducible first | exact HB.out | apply below_alloc | apply pw_below_drewN | apply below_drew1 | refine below_set ?_ GE136.out) | exact HB.out)) hb); have n5_ := Aside0.mk (hbox); have n6_ := Aside0.mk ((by rw [hg]; exact (below_size (by repeat (first | (with_reducible first | exact HB.out | apply below_alloc | apply pw_below_drewN | apply below_drew1 | refine below_set ?_ GE136.out) | exact HB.out))) : w.heap.size ≤ gb141)); have n7_ := Aside0.mk ((by rw [hg]; exact (below_size (by repeat (first | (with_reducible first | exact HB.out | apply below_alloc | apply pw_below_drewN | apply below_drew1 | refine below_set ?_ GE136.out) | exact HB.out))) : w.heap.size ≤ gb141)); have n8_ := Aside0.mk ((by rw [hg]; exact Nat.ne_of_lt (blk_lt (g := gb136) (o := .cells #[.int .i64 a0_0, .int .i64 a0_1, .int .i64 a0_2, .slice A0_3 l0_3.length c0_3] 29 (0, 0)) (by (with_reducible repeat (first | refine blk_drewN ?_ _ | refine blk_drew ?_ | refine blk_alloc ?_ _)); exact BK136.out)) : gb136 ≠ gb141)); have n9_ := Aside0.mk ((by rw [hg]; exact Nat.ne_of_gt (blk_lt (g := gb136) (o := .cells #[.int .i64 a0_0, .int .i64 a0_1, .int .i64 a0_2, .slice A0_3 l0_3.length c0_3] 29 (0, 0)) (by (with_reducible repeat (first | refine blk_drewN ?_ _ | refine blk_drew ?_ | refine blk_alloc ?_ _)); exact BK136.out)) : gb141 ≠ gb136)); clear HO_7; clear HL140_3; clear BK136; clear HR140_3; clear HB; have HO_7 := n0_; have HL140_3 := n1_; have BK136 := n2_; have HR140_3 := n3_; have HB := n4_; have BK141 := n5_; have GW141 := n6_; have GE141 := n7_; have NB136_141 := n8_; have NB141_136 := n9_; clear n0_ n1_ n2_ n3_ n4_ n5_ n6_ n7_ n8_ n9_; clear hb hbox hg; have hnb13 := NB141_136.out; have hnc13 := NB136_141.out; have hcz14_0 : w12.cell? ⟨gb141, 0, none⟩ = some (.int .i64 0) := (blk_cell BK141.out 0).trans rfl; have hcz14_1 : w12.cell? ⟨gb141, 1, none⟩ = some (.int .i64 0) := (blk_cell BK141.out 1).trans rfl; have hcz14_2 : w12.cell? ⟨gb141, 2, none⟩ = some (.int .i64 0) := (blk_cell BK141.out 2).trans rfl; have hcz14_3 : w12.cell? ⟨gb141, 3, none⟩ = some (.slice none 0 0) := (blk_cell BK141.out 3).trans rfl; have hfz14_0 := blk_frozen BK141.out 0; have hfz14_1 := blk_frozen BK141.out 1; have hfz14_2 := blk_frozen BK141.out 2; have hfz14_3 := blk_frozen BK141.out 3) | ((with_reducible refine gate_callee (f := 30) rfl ?_); refine goesL_ (some 15) rfl rfl Try.func30 (by kernel_rfl) rfl #[.agg #[.int .i64 ((rd_T29 t137 x9_1).f0), .int .i64 ((rd_T29 t137 x9_1).f1), .int .i64 ((rd_T29 t137 x9_1).f2), .slice A140_3 ((rd_T29 t137 x9_1).f3).length c140_3]] rfl (by (try simp only [List.map_toArray, List.map_cons, List.map_nil]); first | done | rfl | (simp only [List.length_drop, List.length_take]; rfl)) ?_; (with_reducible refine (ih k1 (by have := HK1.out; omega) ((rd_T29 t137 x9_1).f0) ((rd_T29 t137 x9_1).f1) ((rd_T29 t137 x9_1).f2) _ _ ((rd_T29 t137 x9_1).f3) t142 _ ?side1 ?side2 A10.out).mono ?_); (case side1 => repeat (first | exact ((Kd.V_reads' (by (with_reducible repeat (first | apply Kd.V_alloc | apply Kd.V_drewN | apply Kd.V_drew)); exact (Kd.V_mono (Kd.V_far (p := ⟨gb141, 3, none⟩) (Kd.V_far (p := ⟨gb141, 2, none⟩) (Kd.V_far (p := ⟨gb141, 1, none⟩) (Kd.V_far (p := ⟨gb141, 0, none⟩) (Kd.V_mono HL140_3.out (fun k_ hk => (⟨hk, hk.2⟩ : _ ∧ k_ ≠ gb141))) (fun _ hk => hk.2) (.int .i64 ((rd_T29 t137 x9_1).f0))) (fun _ hk => hk.2) (.int .i64 ((rd_T29 t137 x9_1).f1))) (fun _ hk => hk.2) (.int .i64 ((rd_T29 t137 x9_1).f2))) (fun _ hk => hk.2) (.slice A140_3 ((rd_T29 t137 x9_1).f3).length c140_3)) (fun _ h_ => h_.1)))).2.2) | (with_reducible refine Kd.C_alloc ?_ _) | (with_reducible refine Kd.C_drewN ?_ _) | (with_reducible refine Kd.C_drew ?_))); (case side2 => exact HC140_3.out); rintro e w15 ⟨rfl, hb⟩; refine ⟨_, rfl, ?_⟩; have n0_ := Aside0.mk (Kd.V_below (by (with_reducible repeat (first | apply Kd.V_alloc | apply Kd.V_drewN | apply Kd.V_drew)); exact (Kd.V_mono (Kd.V_far (p := ⟨gb141, 3, none⟩) (Kd.V_far (p := ⟨gb141, 2, none⟩) (Kd.V_far (p := ⟨gb141, 1, none⟩) (Kd.V_far (p := ⟨gb141, 0, none⟩) (Kd.V_mono HO_7.out (fun k_ hk => (⟨hk, hk.2⟩ : _ ∧ k_ ≠ gb141))) (fun _ hk => hk.2) (.int .i64 ((rd_T29 t137 x9_1).f0))) (fun _ hk => hk.2) (.int .i64 ((rd_T29 t137 x9_1).f1))) (fun _ hk => hk.2) (.int .i64 ((rd_T29 t137 x9_1).f2))) (fun _ hk => hk.2) (.slice A140_3 ((rd_T29 t137 x9_1).f3).length c140_3)) (fun _ h_ => h_.1))) hb); have n1_ := Aside0.mk (Kd.V_below (by (with_reducible repeat (first | apply Kd.V_alloc | apply Kd.V_drewN | apply Kd.V_drew)); exact (Kd.V_mono (Kd.V_far (p := ⟨gb141, 3, none⟩) (Kd.V_far (p := ⟨gb141, 2, none⟩) (Kd.V_far (p := ⟨gb141, 1, none⟩) (Kd.V_far (p := ⟨gb141, 0, none⟩) (Kd.V_mono HL140_3.out (fun k_ hk => (⟨hk, hk.2⟩ : _ ∧ k_ ≠ gb141))) (fun _ hk => hk.2) (.int .i64 ((rd_T29 t137 x9_1).f0))) (fun _ hk => hk.2) (.int .i64 ((rd_T29 t137 x9_1).f1))) (fun _ hk => hk.2) (.int .i64 ((rd_T29 t137 x9_1).f2))) (fun _ hk => hk.2) (.slice A140_3 ((rd_T29 t137 x9_1).f3).length c140_3)) (fun _ h_ => h_.1))) hb); have n2_ := Aside0.mk (blk_below (g := gb136) (o := .cells #[.int .i64 a0_0, .int .i64 a0_1, .int .i64 a0_2, .slice A0_3 l0_3.length c0_3] 29 (0, 0)) (by (with_reducible repeat (first | refine blk_drewN ?_ _ | refine blk_drew ?_ | refine blk_alloc ?_ _)); refine blk_far ?_ NB136_141.out _; (with_reducible repeat (first | refine blk_drewN ?_ _ | refine blk_drew ?_ | refine blk_alloc ?_ _)); refine blk_far ?_ NB136_141.out _; (with_reducible repeat (first | refine blk_drewN ?_ _ | refine blk_drew ?_ | refine blk_alloc ?_ _)); refine blk_far ?_ NB136_141.out _; (with_reducible repeat (first | refine blk_drewN ?_ _ | refine blk_drew ?_ | refine blk_alloc ?_ _)); refine blk_far ?_ NB136_141.out _; (with_reducible repeat (first | refine blk_drewN ?_ _ | refine blk_drew ?_ | refine blk_alloc ?_ _)); exact BK136.out) hb); have n3_ := Aside0.mk (Kd.C_below ((Kd.V_reads' (by (with_reducible repeat (first | apply Kd.V_alloc | apply Kd.V_drewN | apply Kd.V_drew)); exact (Kd.V_mono (Kd.V_far (p := ⟨gb141, 3, none⟩) (Kd.V_far (p := ⟨gb141, 2, none⟩) (Kd.V_far (p := ⟨gb141, 1, none⟩) (Kd.V_far (p := ⟨gb141, 0, none⟩) (Kd.V_mono HL140_3.out (fun k_ hk => (⟨hk, hk.2⟩ : _ ∧ k_ ≠ gb141))) (fun _ hk => hk.2) (.int .i64 ((rd_T29 t137 x9_1).f0))) (fun _ hk => hk.2) (.int .i64 ((rd_T29 t137 x9_1).f1))) (fun _ hk => hk.2) (.int .i64 ((rd_T29 t137 x9_1).f2))) (fun _ hk => hk.2) (.slice A140_3 ((rd_T29 t137 x9_1).f3).length c140_3)) (fun _ h_ => h_.1)))).2.2) hb); have n4_ := Aside0.mk (blk_below (g := gb141) (o := .cells #[.int .i64 ((rd_T29 t137 x9_1).f0), .int .i64 ((rd_T29 t137 x9_1).f1), .int .i64 ((rd_T29 t137 x9_1).f2), .slice A140_3 ((rd_T29 t137 x9_1).f3).length c140_3] 29 (0, 0)) (by (with_reducible repeat (first | refine blk_drewN ?_ _ | refine blk_drew ?_ | refine blk_alloc ?_ _)); refine blk_put (cs := #[.int .i64 ((rd_T29 t137 x9_1).f0), .int .i64 ((rd_T29 t137 x9_1).f1), .int .i64 ((rd_T29 t137 x9_1).f2), .slice none 0 0]) ?_ 3 _ rfl; (with_reducible repeat (first | refine blk_drewN ?_ _ | refine blk_drew ?_ | refine blk_alloc ?_ _)); refine blk_put (cs := #[.int .i64 ((rd_T29 t137 x9_1).f0), .int .i64 ((rd_T29 t137 x9_1).f1), .int .i64 0, .slice none 0 0]) ?_ 2 _ rfl; (with_reducible repeat (first | refine blk_drewN ?_ _ | refine blk_drew ?_ | refine blk_alloc ?_ _)); refine blk_put (cs := #[.int .i64 ((rd_T29 t137 x9_1).f0), .int .i64 0, .int .i64 0, .slice none 0 0]) ?_ 1 _ rfl; (with_reducible repeat (first | refine blk_drewN ?_ _ | refine blk_drew ?_ | refine blk_alloc ?_ _)); refine blk_put (cs := #[.int .i64 0, .int .i64 0, .int .i64 0, .slice none 0 0]) ?_ 0 _ rfl; (with_reducible repeat (first | refine blk_drewN ?_ _ | refine blk_drew ?_ | refine blk_alloc ?_ _)); exact BK141.out) hb); have n5_ := Aside0.mk (below_step (by repeat (first | (with_reducible first | exact HB.out | apply below_alloc | apply pw_below_drewN | apply below_drew1 | refine below_set ?_ GE136.out | refine below_set ?_ GE141.out) | exact HB.out)) hb); clear HO_7; clear HL140_3; clear BK136; clear HR140_3; clear BK141; clear HB; have HO_7 := n0_; have HL140_3 := n1_; have BK136 := n2_; have HR140_3 := n3_; have BK141 := n4_; have HB := n5_; clear n0_ n1_ n2_ n3_ n4_ n5_; (try clear hb); (try clear hb2); (try clear hk); (try clear hi)))
            go_roundg k1
            case measure => have := HK1.out; omega
            case rel => exact ⟨(ji11), (wrap64 (x9_1 + 1)), (by first | rfl | (simp; done) | (simp only [← hji11] <;> (first | rfl | simp)) | (simp [*]; done)), (by first | rfl | (simp; done) | (simp [*]; done)), H', ⟨by have := HK1.out; omega⟩, ⟨by (with_reducible repeat (first | apply Kd.V_alloc | apply Kd.V_drewN | apply Kd.V_drew)); exact Kd.V_mono HO_7.out (fun _ hk => hk.1)⟩, ⟨by (with_reducible repeat (first | refine blk_drewN ?_ _ | refine blk_drew ?_ | refine blk_alloc ?_ _)); exact BK136.out⟩, ⟨by repeat (first | (with_reducible first | exact HB.out | apply below_alloc | apply pw_below_drewN | apply below_drew1 | refine below_set ?_ GE136.out | refine below_set ?_ GE141.out) | exact HB.out)⟩⟩
          · rw [if_neg c9] at H
            exact absurd H (by simp)
        · rw [if_neg c8] at H
          exact absurd H (by simp)
      · rw [if_neg c7] at H
        have c7b0 : decide (x9_1 < (t137.length : Int)) = false := decide_eq_false c7
        clear c7
        obtain rfl := Option.some.inj H
        go_wp2
        go_ret
        exact ⟨by first | rfl | (simp [errW_none, errW_some] <;> rfl) | (simp [*, errW_none, errW_some] <;> rfl), by repeat (first | (with_reducible first | exact HB.out | apply below_alloc | apply pw_below_drewN | apply below_drew1 | refine below_set ?_ GE136.out) | exact HB.out)⟩

/-! ### paroleref01_Two: function 36 -/
def paroleref01_Two.f (a0 : Int) (a1_0 : Int) (a1_1 : Int) (a1_2 : Int) (l1_3 : List (S29)) (a2_0 : Int) (a2_1 : Int) (a2_2 : Int) (l2_3 : List (S29)) : Option (Int × Int × Int × (List (S29))) := some (a0, 0, 0, (([(⟨a1_0, a1_1, a1_2, l1_3⟩ : S29), (⟨a2_0, a2_1, a2_2, l2_3⟩ : S29)] : List (S29))))
set_option maxHeartbeats 8000000 in
set_option maxRecDepth 100000 in
theorem paroleref01_Two.calls (a0 : Int) (a1_0 : Int) (a1_1 : Int) (a1_2 : Int) (P1_3_ : Nat → Prop) (A1_3 : Option Addr) (c1_3 : Nat) (l1_3 : List (S29)) (a2_0 : Int) (a2_1 : Int) (a2_2 : Int) (P2_3_ : Nat → Prop) (A2_3 : Option Addr) (c2_3 : Nat) (l2_3 : List (S29)) (r1 : Int) (r2 : Int) (r3 : Int) (r4 : List (S29)) (w : World) (hs1_3 : Kd.V k29 29 w w.heap.size (fun k_ => P1_3_ k_) (.slice A1_3 l1_3.length c1_3) l1_3) (hs2_3 : Kd.V k29 29 w w.heap.size (fun k_ => P2_3_ k_) (.slice A2_3 l2_3.length c2_3) l2_3) (h : paroleref01_Two.f a0 a1_0 a1_1 a1_2 l1_3 a2_0 a2_1 a2_2 l2_3 = some (r1, r2, r3, r4)) :
    Calls Try.prog 36 #[.int .i64 a0, .agg #[.int .i64 a1_0, .int .i64 a1_1, .int .i64 a1_2, .slice A1_3 l1_3.length c1_3], .agg #[.int .i64 a2_0, .int .i64 a2_1, .int .i64 a2_2, .slice A2_3 l2_3.length c2_3]] w fun e w' => ∃ v3_ : Value, e = .returned (.agg #[.int .i64 r1, .int .i64 r2, .int .i64 r3, v3_]) ∧ Kd.N k29 29 w' w.heap.size (fun k_ => ((P1_3_ k_ ∨ P2_3_ k_) ∨ w.heap.size ≤ k_)) v3_ r4 ∧ Below w.heap.size w w' := by
  have hu29 := Try.underlying29
  have HO1_3 := Aside0.mk (show Kd.V k29 29 w w.heap.size (fun k_ => ((P1_3_ k_ ∨ P2_3_ k_) ∨ w.heap.size ≤ k_)) (.slice A1_3 l1_3.length c1_3) l1_3 from Kd.V_mono hs1_3 (fun k_ hk => .inl (.inl hk)))
  have HO2_3 := Aside0.mk (show Kd.V k29 29 w w.heap.size (fun k_ => ((P1_3_ k_ ∨ P2_3_ k_) ∨ w.heap.size ≤ k_)) (.slice A2_3 l2_3.length c2_3) l2_3 from Kd.V_mono hs2_3 (fun k_ hk => .inl (.inr hk)))
  have HB := Aside0.mk (Below.refl w.heap.size w)
  have H : (some (a0, 0, 0, (([(⟨a1_0, a1_1, a1_2, l1_3⟩ : S29), (⟨a2_0, a2_1, a2_2, l2_3⟩ : S29)] : List (S29))))) = some (r1, r2, r3, r4) := h
  clear h
  obtain ⟨y146, hy146⟩ : ∃ y_ : List (S29), y_ = (([(⟨a1_0, a1_1, a1_2, l1_3⟩ : S29), (⟨a2_0, a2_1, a2_2, l2_3⟩ : S29)] : List (S29))) := ⟨_, rfl⟩
  replace H : (some (a0, 0, 0, y146)) = some (r1, r2, r3, r4) := by first | (rw [hy146]; with_reducible exact H) | (have H2_ := (Option.bind_some _ _).symm.trans H; rw [hy146]; with_reducible exact H2_) | (have H2_ := (Option.bind_some _ _).symm.trans H; with_reducible exact H2_) | with_reducible exact H | (rw [hy146]; exact H) | exact H
  have Ny146 := Aside0.mk hy146
  clear hy146
  simp only [Option.some.injEq, Prod.mk.injEq] at H
  obtain ⟨rfl, rfl, rfl, rfl⟩ := H
  go_enter Try.func36, Try.ntmps36
  go_wp2_with (first | ((with_reducible refine gate_dst (N := 4) rfl ?_); refine box_event ?hg (N := 4) ?hd (cs := #[.int .i64 a1_0, .int .i64 a1_1, .int .i64 a1_2, .slice A1_3 l1_3.length c1_3]) (t := 29) ?hr ?_; (case hd => rfl); (case hg => rfl); (case hr => first | (go_simp; done) | (go_simp; rfl)); intro gb143 hg w4 hbox hb; have n0_ := Aside0.mk (Kd.V_below (Kd.V_elderB (by (with_reducible repeat (first | apply Kd.V_alloc | apply Kd.V_drewN | apply Kd.V_drew)); exact HO1_3.out) gb143 (Nat.le_of_eq hg.symm)) hb); have n1_ := Aside0.mk (Kd.V_below (Kd.V_elderB (by (with_reducible repeat (first | apply Kd.V_alloc | apply Kd.V_drewN | apply Kd.V_drew)); exact HO2_3.out) gb143 (Nat.le_of_eq hg.symm)) hb); have n2_ := Aside0.mk (below_step (by repeat (first | (with_reducible first | exact HB.out | apply below_alloc | apply pw_below_drewN | apply below_drew1) | exact HB.out)) hb); have n3_ := Aside0.mk (hbox); have n4_ := Aside0.mk ((by rw [hg]; exact (below_size (by repeat (first | (with_reducible first | exact HB.out | apply below_alloc | apply pw_below_drewN | apply below_drew1) | exact HB.out))) : w.heap.size ≤ gb143)); have n5_ := Aside0.mk ((by rw [hg]; exact (below_size (by repeat (first | (with_reducible first | exact HB.out | apply below_alloc | apply pw_below_drewN | apply below_drew1) | exact HB.out))) : w.heap.size ≤ gb143)); clear HO1_3; clear HO2_3; clear HB; have HO1_3 := n0_; have HO2_3 := n1_; have HB := n2_; have BK143 := n3_; have GW143 := n4_; have GE143 := n5_; clear n0_ n1_ n2_ n3_ n4_ n5_; clear hb hbox hg) | ((with_reducible refine gate_dst (N := 5) rfl ?_); refine box_event ?hg (N := 5) ?hd (cs := #[.int .i64 a2_0, .int .i64 a2_1, .int .i64 a2_2, .slice A2_3 l2_3.length c2_3]) (t := 29) ?hr ?_; (case hd => rfl); (case hg => rfl); (case hr => first | (go_simp; done) | (go_simp; rfl)); intro gb144 hg w5 hbox hb; have n0_ := Aside0.mk (Kd.V_below (Kd.V_elderB (by (with_reducible repeat (first | apply Kd.V_alloc | apply Kd.V_drewN | apply Kd.V_drew)); exact HO1_3.out) gb144 (Nat.le_of_eq hg.symm)) hb); have n1_ := Aside0.mk (Kd.V_below (Kd.V_elderB (by (with_reducible repeat (first | apply Kd.V_alloc | apply Kd.V_drewN | apply Kd.V_drew)); exact HO2_3.out) gb144 (Nat.le_of_eq hg.symm)) hb); have n2_ := Aside0.mk (blk_below (g := gb143) (o := .cells #[.int .i64 a1_0, .int .i64 a1_1, .int .i64 a1_2, .slice A1_3 l1_3.length c1_3] 29 (0, 0)) (by (with_reducible repeat (first | refine blk_drewN ?_ _ | refine blk_drew ?_ | refine blk_alloc ?_ _)); exact BK143.out) hb); have n3_ := Aside0.mk (below_step (by repeat (first | (with_reducible first | exact HB.out | apply below_alloc | apply pw_below_drewN | apply below_drew1 | refine below_set ?_ GE143.out) | exact HB.out)) hb); have n4_ := Aside0.mk (hbox); have n5_ := Aside0.mk ((by rw [hg]; exact (below_size (by repeat (first | (with_reducible first | exact HB.out | apply below_alloc | apply pw_below_drewN | apply below_drew1 | refine below_set ?_ GE143.out) | exact HB.out))) : w.heap.size ≤ gb144)); have n6_ := Aside0.mk ((by rw [hg]; exact (below_size (by repeat (first | (with_reducible first | exact HB.out | apply below_alloc | apply pw_below_drewN | apply below_drew1 | refine below_set ?_ GE143.out) | exact HB.out))) : w.heap.size ≤ gb144)); have n7_ := Aside0.mk ((by rw [hg]; exact Nat.ne_of_lt (blk_lt (g := gb143) (o := .cells #[.int .i64 a1_0, .int .i64 a1_1, .int .i64 a1_2, .slice A1_3 l1_3.length c1_3] 29 (0, 0)) (by (with_reducible repeat (first | refine blk_drewN ?_ _ | refine blk_drew ?_ | refine blk_alloc ?_ _)); exact BK143.out)) : gb143 ≠ gb144)); have n8_ := Aside0.mk ((by rw [hg]; exact Nat.ne_of_gt (blk_lt (g := gb143) (o := .cells #[.int .i64 a1_0, .int .i64 a1_1, .int .i64 a1_2, .slice A1_3 l1_3.length c1_3] 29 (0, 0)) (by (with_reducible repeat (first | refine blk_drewN ?_ _ | refine blk_drew ?_ | refine blk_alloc ?_ _)); exact BK143.out)) : gb144 ≠ gb143)); clear HO1_3; clear HO2_3; clear BK143; clear HB; have HO1_3 := n0_; have HO2_3 := n1_; have BK143 := n2_; have HB := n3_; have BK144 := n4_; have GW144 := n5_; have GE144 := n6_; have NB143_144 := n7_; have NB144_143 := n8_; clear n0_ n1_ n2_ n3_ n4_ n5_ n6_ n7_ n8_; clear hb hbox hg) | ((with_reducible refine gate_dst (N := 6) rfl ?_); refine box_event ?hg (N := 6) ?hd (cs := #[.int .i64 0, .int .i64 0, .int .i64 0, .slice none 0 0]) (t := 29) ?hr ?_; (case hd => rfl); (case hg => rfl); (case hr => first | (go_simp; done) | (go_simp; rfl)); intro gb145 hg w6 hbox hb; have n0_ := Aside0.mk (Kd.V_below (Kd.V_elderB (by (with_reducible repeat (first | apply Kd.V_alloc | apply Kd.V_drewN | apply Kd.V_drew)); exact HO1_3.out) gb145 (Nat.le_of_eq hg.symm)) hb); have n1_ := Aside0.mk (Kd.V_below (Kd.V_elderB (by (with_reducible repeat (first | apply Kd.V_alloc | apply Kd.V_drewN | apply Kd.V_drew)); exact HO2_3.out) gb145 (Nat.le_of_eq hg.symm)) hb); have n2_ := Aside0.mk (blk_below (g := gb143) (o := .cells #[.int .i64 a1_0, .int .i64 a1_1, .int .i64 a1_2, .slice A1_3 l1_3.length c1_3] 29 (0, 0)) (by (with_reducible repeat (first | refine blk_drewN ?_ _ | refine blk_drew ?_ | refine blk_alloc ?_ _)); exact BK143.out) hb); have n3_ := Aside0.mk (blk_below (g := gb144) (o := .cells #[.int .i64 a2_0, .int .i64 a2_1, .int .i64 a2_2, .slice A2_3 l2_3.length c2_3] 29 (0, 0)) (by (with_reducible repeat (first | refine blk_drewN ?_ _ | refine blk_drew ?_ | refine blk_alloc ?_ _)); exact BK144.out) hb); have n4_ := Aside0.mk (below_step (by repeat (first | (with_reducible first | exact HB.out | apply below_alloc | apply pw_below_drewN | apply below_drew1 | refine below_set ?_ GE143.out | refine below_set ?_ GE144.out) | exact HB.out)) hb); have n5_ := Aside0.mk (hbox); have n6_ := Aside0.mk ((by rw [hg]; exact (below_size (by repeat (first | (with_reducible first | exact HB.out | apply below_alloc | apply pw_below_drewN | apply below_drew1 | refine below_set ?_ GE143.out | refine below_set ?_ GE144.out) | exact HB.out))) : w.heap.size ≤ gb145)); have n7_ := Aside0.mk ((by rw [hg]; exact (below_size (by repeat (first | (with_reducible first | exact HB.out | apply below_alloc | apply pw_below_drewN | apply below_drew1 | refine below_set ?_ GE143.out | refine below_set ?_ GE144.out) | exact HB.out))) : w.heap.size ≤ gb145)); have n8_ := Aside0.mk ((by rw [hg]; exact Nat.ne_of_lt (blk_lt (g := gb143) (o := .cells #[.int .i64 a1_0, .int .i64 a1_1, .int .i64 a1_2, .slice A1_3 l1_3.length c1_3] 29 (0, 0)) (by (with_reducible repeat (first | refine blk_drewN ?_ _ | refine blk_drew ?_ | refine blk_alloc ?_ _)); exact BK143.out)) : gb143 ≠ gb145)); have n9_ := Aside0.mk ((by rw [hg]; exact Nat.ne_of_gt (blk_lt (g := gb143) (o := .cells #[.int .i64 a1_0, .int .i64 a1_1, .int .i64 a1_2, .slice A1_3 l1_3.length c1_3] 29 (0, 0)) (by (with_reducible repeat (first | refine blk_drewN ?_ _ | refine blk_drew ?_ | refine blk_alloc ?_ _)); exact BK143.out)) : gb145 ≠ gb143)); have n10_ := Aside0.mk ((by rw [hg]; exact Nat.ne_of_lt (blk_lt (g := gb144) (o := .cells #[.int .i64 a2_0, .int .i64 a2_1, .int .i64 a2_2, .slice A2_3 l2_3.length c2_3] 29 (0, 0)) (by (with_reducible repeat (first | refine blk_drewN ?_ _ | refine blk_drew ?_ | refine blk_alloc ?_ _)); exact BK144.out)) : gb144 ≠ gb145)); have n11_ := Aside0.mk ((by rw [hg]; exact Nat.ne_of_gt (blk_lt (g := gb144) (o := .cells #[.int .i64 a2_0, .int .i64 a2_1, .int .i64 a2_2, .slice A2_3 l2_3.length c2_3] 29 (0, 0)) (by (with_reducible repeat (first | refine blk_drewN ?_ _ | refine blk_drew ?_ | refine blk_alloc ?_ _)); exact BK144.out)) : gb145 ≠ gb144)); clear HO1_3; clear HO2_3; clear BK143; clear BK144; clear HB; have HO1_3 := n0_; have HO2_3 := n1_; have BK143 := n2_; have BK144 := n3_; have HB := n4_; have BK145 := n5_; have GW145 := n6_; have GE145 := n7_; have NB143_145 := n8_; have NB145_143 := n9_; have NB144_145 := n10_; have NB145_144 := n11_; clear n0_ n1_ n2_ n3_ n4_ n5_ n6_ n7_ n8_ n9_ n10_ n11_; clear hb hbox hg; have hnb7 := NB143_144.out; have hnc7 := NB144_143.out; have hnb8 := NB143_145.out; have hnc8 := NB145_143.out; have hcz9_0 : w6.cell? ⟨gb143, 0, none⟩ = some (.int .i64 a1_0) := (blk_cell BK143.out 0).trans rfl; have hcz9_1 : w6.cell? ⟨gb143, 1, none⟩ = some (.int .i64 a1_1) := (blk_cell BK143.out 1).trans rfl; have hcz9_2 : w6.cell? ⟨gb143, 2, none⟩ = some (.int .i64 a1_2) := (blk_cell BK143.out 2).trans rfl; have hcz9_3 : w6.cell? ⟨gb143, 3, none⟩ = some (.slice A1_3 l1_3.length c1_3) := (blk_cell BK143.out 3).trans rfl; have hfz9_0 := blk_frozen BK143.out 0; have hfz9_1 := blk_frozen BK143.out 1; have hfz9_2 := blk_frozen BK143.out 2; have hfz9_3 := blk_frozen BK143.out 3; have hnb10 := NB144_145.out; have hnc10 := NB145_144.out; have hcz11_0 : w6.cell? ⟨gb144, 0, none⟩ = some (.int .i64 a2_0) := (blk_cell BK144.out 0).trans rfl; have hcz11_1 : w6.cell? ⟨gb144, 1, none⟩ = some (.int .i64 a2_1) := (blk_cell BK144.out 1).trans rfl; have hcz11_2 : w6.cell? ⟨gb144, 2, none⟩ = some (.int .i64 a2_2) := (blk_cell BK144.out 2).trans rfl; have hcz11_3 : w6.cell? ⟨gb144, 3, none⟩ = some (.slice A2_3 l2_3.length c2_3) := (blk_cell BK144.out 3).trans rfl; have hfz11_0 := blk_frozen BK144.out 0; have hfz11_1 := blk_frozen BK144.out 1; have hfz11_2 := blk_frozen BK144.out 2; have hfz11_3 := blk_frozen BK144.out 3) | ((with_reducible refine gate_dst (N := 10) rfl ?_); refine Kd.N_lit k29 _ 29 ?hg (N' := 10) ?hd (xs := ([(⟨a1_0, a1_1, a1_2, l1_3⟩ : S29), (⟨a2_0, a2_1, a2_2, l2_3⟩ : S29)] : List (S29))) (inner := [.int .i64 a1_0, .int .i64 a1_1, .int .i64 a1_2, .slice A1_3 l1_3.length c1_3, .int .i64 a2_0, .int .i64 a2_1, .int .i64 a2_2, .slice A2_3 l2_3.length c2_3]) (ok := (fun k_ => ((P1_3_ k_ ∨ P2_3_ k_) ∨ w.heap.size ≤ k_) ∧ k_ ≠ gb143 ∧ k_ ≠ gb144 ∧ k_ ≠ gb145)) (okp := (fun k_ => ((P1_3_ k_ ∨ P2_3_ k_) ∨ w.heap.size ≤ k_) ∧ k_ ≠ gb143 ∧ k_ ≠ gb144 ∧ k_ ≠ gb145)) ?hr ?hp (fun _ hk => hk) ((show ∀ k_, w6.heap.size ≤ k_ → (fun k_ => ((P1_3_ k_ ∨ P2_3_ k_) ∨ w.heap.size ≤ k_) ∧ k_ ≠ gb143 ∧ k_ ≠ gb144 ∧ k_ ≠ gb145) k_ from fun k_ hk => ⟨(.inr (Nat.le_trans (below_size (by repeat (first | (with_reducible first | exact HB.out | apply below_alloc | apply pw_below_drewN | apply below_drew1 | refine below_set ?_ GE143.out | refine below_set ?_ GE144.out | refine below_set ?_ GE145.out) | exact HB.out))) hk)), Kd.freshB (g := gb143) (o := .cells #[.int .i64 a1_0, .int .i64 a1_1, .int .i64 a1_2, .slice A1_3 l1_3.length c1_3] 29 (0, 0)) (by (with_reducible repeat (first | refine blk_drewN ?_ _ | refine blk_drew ?_ | refine blk_alloc ?_ _)); exact BK143.out) k_ hk, Kd.freshB (g := gb144) (o := .cells #[.int .i64 a2_0, .int .i64 a2_1, .int .i64 a2_2, .slice A2_3 l2_3.length c2_3] 29 (0, 0)) (by (with_reducible repeat (first | refine blk_drewN ?_ _ | refine blk_drew ?_ | refine blk_alloc ?_ _)); exact BK144.out) k_ hk, Kd.freshB (g := gb145) (o := .cells #[.int .i64 0, .int .i64 0, .int .i64 0, .slice none 0 0] 29 (0, 0)) (by (with_reducible repeat (first | refine blk_drewN ?_ _ | refine blk_drew ?_ | refine blk_alloc ?_ _)); exact BK145.out) k_ hk⟩) _ (Nat.le_refl _)) (Below.refl _ _) (Nat.le_refl _) (by simp) ?_; (case hd => rfl); (case hg => rfl); (case hr => first | (go_simp; done) | (go_simp; rfl)); (case hp => exact (Reps.c4 (show Kd.FK k29 _ _ (⟨a1_0, a1_1, a1_2, l1_3⟩ : S29) [.int .i64 a1_0, .int .i64 a1_1, .int .i64 a1_2, .slice A1_3 l1_3.length c1_3] from (k29_mkF _ _ (⟨a1_0, a1_1, a1_2, l1_3⟩ : S29) (Kd.V_reads' (Kd.V_mono (ok' := (fun k_ => ((P1_3_ k_ ∨ P2_3_ k_) ∨ w.heap.size ≤ k_) ∧ k_ ≠ gb143 ∧ k_ ≠ gb144 ∧ k_ ≠ gb145)) (HO1_3.out) (fun k_ hk => ⟨hk.1.1.1, ⟨hk.1.1.2, ⟨hk.1.2, hk.2⟩⟩⟩))).2.1 (Kd.V_F (Kd.V_mono (ok' := (fun k_ => ((P1_3_ k_ ∨ P2_3_ k_) ∨ w.heap.size ≤ k_) ∧ k_ ≠ gb143 ∧ k_ ≠ gb144 ∧ k_ ≠ gb145)) (HO1_3.out) (fun k_ hk => ⟨hk.1.1.1, ⟨hk.1.1.2, ⟨hk.1.2, hk.2⟩⟩⟩))))) (Reps.c4 (show Kd.FK k29 _ _ (⟨a2_0, a2_1, a2_2, l2_3⟩ : S29) [.int .i64 a2_0, .int .i64 a2_1, .int .i64 a2_2, .slice A2_3 l2_3.length c2_3] from (k29_mkF _ _ (⟨a2_0, a2_1, a2_2, l2_3⟩ : S29) (Kd.V_reads' (Kd.V_mono (ok' := (fun k_ => ((P1_3_ k_ ∨ P2_3_ k_) ∨ w.heap.size ≤ k_) ∧ k_ ≠ gb143 ∧ k_ ≠ gb144 ∧ k_ ≠ gb145)) (HO2_3.out) (fun k_ hk => ⟨hk.1.1.1, ⟨hk.1.1.2, ⟨hk.1.2, hk.2⟩⟩⟩))).2.1 (Kd.V_F (Kd.V_mono (ok' := (fun k_ => ((P1_3_ k_ ∨ P2_3_ k_) ∨ w.heap.size ≤ k_) ∧ k_ ≠ gb143 ∧ k_ ≠ gb144 ∧ k_ ≠ gb145)) (HO2_3.out) (fun k_ hk => ⟨hk.1.1.1, ⟨hk.1.1.2, ⟨hk.1.2, hk.2⟩⟩⟩))))) (Reps.none _ _)))); intro v147 w12 ho13 hb hg_ hnew_; clear hg_ hnew_; (first | rw [← Ny146.out] at ho13 | (simp only [Int.reduceToNat] at ho13; rw [← Ny146.out] at ho13)); have n0_ := Aside0.mk (Kd.V_elder' (by (with_reducible repeat (first | apply Kd.V_alloc | apply Kd.V_drewN | apply Kd.V_drew)); exact HO1_3.out) (Kd.N_base ho13) hb); have n1_ := Aside0.mk (Kd.V_elder' (by (with_reducible repeat (first | apply Kd.V_alloc | apply Kd.V_drewN | apply Kd.V_drew)); exact HO2_3.out) (Kd.N_base ho13) hb); have n2_ := Aside0.mk (Kd.N_lower ho13 (below_size (by repeat (first | (with_reducible first | exact HB.out | apply below_alloc | apply pw_below_drewN | apply below_drew1 | refine below_set ?_ GE143.out | refine below_set ?_ GE144.out | refine below_set ?_ GE145.out) | exact HB.out)))); have n3_ := Aside0.mk (blk_below (g := gb143) (o := .cells #[.int .i64 a1_0, .int .i64 a1_1, .int .i64 a1_2, .slice A1_3 l1_3.length c1_3] 29 (0, 0)) (by (with_reducible repeat (first | refine blk_drewN ?_ _ | refine blk_drew ?_ | refine blk_alloc ?_ _)); exact BK143.out) hb); have n4_ := Aside0.mk (blk_below (g := gb144) (o := .cells #[.int .i64 a2_0, .int .i64 a2_1, .int .i64 a2_2, .slice A2_3 l2_3.length c2_3] 29 (0, 0)) (by (with_reducible repeat (first | refine blk_drewN ?_ _ | refine blk_drew ?_ | refine blk_alloc ?_ _)); exact BK144.out) hb); have n5_ := Aside0.mk (blk_below (g := gb145) (o := .cells #[.int .i64 0, .int .i64 0, .int .i64 0, .slice none 0 0] 29 (0, 0)) (by (with_reducible repeat (first | refine blk_drewN ?_ _ | refine blk_drew ?_ | refine blk_alloc ?_ _)); exact BK145.out) hb); have n6_ := Aside0.mk (below_step (by repeat (first | (with_reducible first | exact HB.out | apply below_alloc | apply pw_below_drewN | apply below_drew1 | refine below_set ?_ GE143.out | refine below_set ?_ GE144.out | refine below_set ?_ GE145.out) | exact HB.out)) hb); clear HO1_3; clear HO2_3; clear BK143; clear BK144; clear BK145; clear HB; have HO1_3 := n0_; have HO2_3 := n1_; have HO148 := n2_; have BK143 := n3_; have BK144 := n4_; have BK145 := n5_; have HB := n6_; clear n0_ n1_ n2_ n3_ n4_ n5_ n6_; clear hb ho13; obtain ⟨Ao14, co14, eo14⟩ := Kd.N_slice HO148.out; subst eo14; have hcz15_0 : w12.cell? ⟨gb145, 0, none⟩ = some (.int .i64 0) := (blk_cell BK145.out 0).trans rfl; have hcz15_1 : w12.cell? ⟨gb145, 1, none⟩ = some (.int .i64 0) := (blk_cell BK145.out 1).trans rfl; have hcz15_2 : w12.cell? ⟨gb145, 2, none⟩ = some (.int .i64 0) := (blk_cell BK145.out 2).trans rfl; have hcz15_3 : w12.cell? ⟨gb145, 3, none⟩ = some (.slice none 0 0) := (blk_cell BK145.out 3).trans rfl; have hfz15_0 := blk_frozen BK145.out 0; have hfz15_1 := blk_frozen BK145.out 1; have hfz15_2 := blk_frozen BK145.out 2; have hfz15_3 := blk_frozen BK145.out 3))
  refine bodyPost_ret (results_cell_row rfl _ _ gb145 29 #[.int .i64 a0, .int .i64 0, .int .i64 0, .slice Ao14 y146.length co14] (0, 0) _ rfl (by (with_reducible repeat (first | refine blk_drewN ?_ _ | refine blk_drew ?_ | refine blk_alloc ?_ _)); refine blk_put (cs := #[.int .i64 a0, .int .i64 0, .int .i64 0, .slice none 0 0]) ?_ 3 _ rfl; (with_reducible repeat (first | refine blk_drewN ?_ _ | refine blk_drew ?_ | refine blk_alloc ?_ _)); refine blk_put (cs := #[.int .i64 a0, .int .i64 0, .int .i64 0, .slice none 0 0]) ?_ 2 _ rfl; (with_reducible repeat (first | refine blk_drewN ?_ _ | refine blk_drew ?_ | refine blk_alloc ?_ _)); refine blk_put (cs := #[.int .i64 a0, .int .i64 0, .int .i64 0, .slice none 0 0]) ?_ 1 _ rfl; (with_reducible repeat (first | refine blk_drewN ?_ _ | refine blk_drew ?_ | refine blk_alloc ?_ _)); refine blk_put (cs := #[.int .i64 0, .int .i64 0, .int .i64 0, .slice none 0 0]) ?_ 0 _ rfl; (with_reducible repeat (first | refine blk_drewN ?_ _ | refine blk_drew ?_ | refine blk_alloc ?_ _)); exact BK145.out) Try.underlying29 rfl (by kernel_rfl)) rfl ?_
  exact ⟨_, by first | rfl | (simp [errW_none, errW_some] <;> rfl) | (simp [*, errW_none, errW_some] <;> rfl), by (with_reducible repeat (first | apply Kd.N_alloc | apply Kd.N_drewN | apply Kd.N_drew)); exact Kd.N_mono (Kd.N_far (p := ⟨gb145, 3, none⟩) (Kd.N_far (p := ⟨gb145, 2, none⟩) (Kd.N_far (p := ⟨gb145, 1, none⟩) (Kd.N_far (p := ⟨gb145, 0, none⟩) (Kd.N_mono HO148.out (fun k_ hk => (⟨hk, hk.2.2.2⟩ : _ ∧ k_ ≠ gb145))) (fun _ hk => hk.2) (.int .i64 a0)) (fun _ hk => hk.2) (.int .i64 0)) (fun _ hk => hk.2) (.int .i64 0)) (fun _ hk => hk.2) (.slice Ao14 y146.length co14)) (fun _ hk => hk.1.1), by repeat (first | (with_reducible first | exact HB.out | apply below_alloc | apply pw_below_drewN | apply below_drew1 | refine below_set ?_ GE143.out | refine below_set ?_ GE144.out | refine below_set ?_ GE145.out) | exact HB.out)⟩

/-! ### parolelaw01_examples: function 10 -/
def parolelaw01_examples.j0 : Nat → Bool → Int → Int → Int → List (S29) → Option (Bool)
  | 0, _, _, _, _, _ => none
  | k + 1, x16, x180000, x180001, x180002, x180003 => if x16 = true then (some false) else ((num_Op.f 7 (-2147483648) (-1)).bind fun t183 => (if t183 = (-2147483648) then ((num_Op.f 8 (-2147483648) (-1)).bind fun t184 => (if t184 = 0 then ((num_Depth.f k x180000 x180001 x180002 x180003).bind fun t185 => (if t185 = 3 then ((num_Eval.f k x180000 x180001 x180002 x180003 ([] : List Int) ([] : List Int)).bind fun t186 => (if t186 = 6 then ((num_Holds.f k 1 ([] : List (S29)) ([] : List (S34)) ([] : List Int) ([] : List Int)).bind fun t187 => (if t187 = true then ((num_Wrap.f 4294967301).bind fun t188 => (some (t188 == 5))) else (some false))) else (some false))) else (some false))) else (some false))) else (some false)))
def parolelaw01_examples.f (k : Nat)  : Option (Bool) := (paroleref01_Num.f 1).bind fun bt149 => ((paroleref01_Num.f 2).bind fun bt155 => ((paroleref01_Num.f 3).bind fun bt161 => ((paroleref01_Two.f 4 bt155.1 bt155.2.1 bt155.2.2.1 bt155.2.2.2 bt161.1 bt161.2.1 bt161.2.2.1 bt161.2.2.2).bind fun bt167 => ((paroleref01_Two.f 4 bt149.1 bt149.2.1 bt149.2.2.1 bt149.2.2.2 bt167.1 bt167.2.1 bt167.2.2.1 bt167.2.2.2).bind fun bt173 => ((num_Op.f 4 2147483647 1).bind fun t180 => (if t180 = (-2147483648) then ((num_Op.f 7 (-7) 2).bind fun t181 => (if t181 = (-3) then ((num_Op.f 8 (-7) 2).bind fun t182 => (parolelaw01_examples.j0 k (t182 != (-1)) bt173.1 bt173.2.1 bt173.2.2.1 bt173.2.2.2)) else (parolelaw01_examples.j0 k true bt173.1 bt173.2.1 bt173.2.2.1 bt173.2.2.2))) else (parolelaw01_examples.j0 k true bt173.1 bt173.2.1 bt173.2.2.1 bt173.2.2.2)))))))
theorem parolelaw01_examples.mono_l : ∀ k, (∀ y0 y1 y2 y3 y4, LeO (parolelaw01_examples.j0 k y0 y1 y2 y3 y4) (parolelaw01_examples.j0 (k + 1) y0 y1 y2 y3 y4))
  | 0 => fun _ _ _ _ _ r h => by simp [parolelaw01_examples.j0] at h
  | k + 1 => by
    have ih0 := parolelaw01_examples.mono_l k
    · intro y0 y1 y2 y3 y4
      unfold parolelaw01_examples.j0
      repeat' first
      | (with_reducible exact ih0 _ _ _ _ _)
      | (with_reducible exact num_Depth.mono _ _ _ _ _)
      | (with_reducible exact num_Eval.mono _ _ _ _ _ _ _)
      | (with_reducible exact num_Holds.mono _ _ _ _ _ _)
      | (with_reducible exact LeO.refl _)
      | (with_reducible exact LeO.none _)
      | (with_reducible refine LeO.ite ?_ ?_)
      | (with_reducible refine LeO.bind ?_ (fun _ => ?_))
      | exact ih0 _ _ _ _ _
      | exact num_Depth.mono _ _ _ _ _
      | exact num_Eval.mono _ _ _ _ _ _ _
      | exact num_Holds.mono _ _ _ _ _ _
      | exact LeO.none _
      | refine LeO.ite ?_ ?_
      | refine LeO.bind ?_ (fun _ => ?_)
theorem parolelaw01_examples.mono : ∀ k, LeO (parolelaw01_examples.f k ) (parolelaw01_examples.f (k + 1) ) := by
  intro  k
  have ih0 := parolelaw01_examples.mono_l k
  unfold parolelaw01_examples.f
  repeat' first
      | (with_reducible exact ih0 _ _ _ _ _)
      | (with_reducible exact num_Depth.mono _ _ _ _ _)
      | (with_reducible exact num_Eval.mono _ _ _ _ _ _ _)
      | (with_reducible exact num_Holds.mono _ _ _ _ _ _)
      | (with_reducible exact LeO.refl _)
      | (with_reducible exact LeO.none _)
      | (with_reducible refine LeO.ite ?_ ?_)
      | (with_reducible refine LeO.bind ?_ (fun _ => ?_))
      | exact ih0 _ _ _ _ _
      | exact num_Depth.mono _ _ _ _ _
      | exact num_Eval.mono _ _ _ _ _ _ _
      | exact num_Holds.mono _ _ _ _ _ _
      | exact LeO.none _
      | refine LeO.ite ?_ ?_
      | refine LeO.bind ?_ (fun _ => ?_)
set_option maxHeartbeats 8000000 in
set_option maxRecDepth 100000 in
theorem parolelaw01_examples.calls (k : Nat)  (r : Bool) (w : World) (h : parolelaw01_examples.f k  = some r) :
    Calls Try.prog 10 #[] w fun e w' => e = .returned (.bool r) ∧ Below w.heap.size w w' := by
  have hu29 := Try.underlying29
  have hu34 := Try.underlying34
  have HB := Aside0.mk (Below.refl w.heap.size w)
  have H : ((paroleref01_Num.f 1).bind fun bt149 => ((paroleref01_Num.f 2).bind fun bt155 => ((paroleref01_Num.f 3).bind fun bt161 => ((paroleref01_Two.f 4 bt155.1 bt155.2.1 bt155.2.2.1 bt155.2.2.2 bt161.1 bt161.2.1 bt161.2.2.1 bt161.2.2.2).bind fun bt167 => ((paroleref01_Two.f 4 bt149.1 bt149.2.1 bt149.2.2.1 bt149.2.2.2 bt167.1 bt167.2.1 bt167.2.2.1 bt167.2.2.2).bind fun bt173 => ((num_Op.f 4 2147483647 1).bind fun t180 => (if t180 = (-2147483648) then ((num_Op.f 7 (-7) 2).bind fun t181 => (if t181 = (-3) then ((num_Op.f 8 (-7) 2).bind fun t182 => (parolelaw01_examples.j0 k (t182 != (-1)) bt173.1 bt173.2.1 bt173.2.2.1 bt173.2.2.2)) else (parolelaw01_examples.j0 k true bt173.1 bt173.2.1 bt173.2.2.1 bt173.2.2.2))) else (parolelaw01_examples.j0 k true bt173.1 bt173.2.1 bt173.2.2.1 bt173.2.2.2)))))))) = some r := h
  clear h
  replace H := Option.bind_eq_some_iff.mp H
  obtain ⟨⟨t149, t150, t151, t152⟩, A10, H⟩ := H
  replace H : ((paroleref01_Num.f 2).bind fun bt155 => ((paroleref01_Num.f 3).bind fun bt161 => ((paroleref01_Two.f 4 bt155.1 bt155.2.1 bt155.2.2.1 bt155.2.2.2 bt161.1 bt161.2.1 bt161.2.2.1 bt161.2.2.2).bind fun bt167 => ((paroleref01_Two.f 4 t149 t150 t151 t152 bt167.1 bt167.2.1 bt167.2.2.1 bt167.2.2.2).bind fun bt173 => ((num_Op.f 4 2147483647 1).bind fun t180 => (if t180 = (-2147483648) then ((num_Op.f 7 (-7) 2).bind fun t181 => (if t181 = (-3) then ((num_Op.f 8 (-7) 2).bind fun t182 => (parolelaw01_examples.j0 k (t182 != (-1)) bt173.1 bt173.2.1 bt173.2.2.1 bt173.2.2.2)) else (parolelaw01_examples.j0 k true bt173.1 bt173.2.1 bt173.2.2.1 bt173.2.2.2))) else (parolelaw01_examples.j0 k true bt173.1 bt173.2.1 bt173.2.2.1 bt173.2.2.2))))))) = some r := H
  have A1 := Aside0.mk A10
  clear A10
  replace H := Option.bind_eq_some_iff.mp H
  obtain ⟨⟨t155, t156, t157, t158⟩, A20, H⟩ := H
  replace H : ((paroleref01_Num.f 3).bind fun bt161 => ((paroleref01_Two.f 4 t155 t156 t157 t158 bt161.1 bt161.2.1 bt161.2.2.1 bt161.2.2.2).bind fun bt167 => ((paroleref01_Two.f 4 t149 t150 t151 t152 bt167.1 bt167.2.1 bt167.2.2.1 bt167.2.2.2).bind fun bt173 => ((num_Op.f 4 2147483647 1).bind fun t180 => (if t180 = (-2147483648) then ((num_Op.f 7 (-7) 2).bind fun t181 => (if t181 = (-3) then ((num_Op.f 8 (-7) 2).bind fun t182 => (parolelaw01_examples.j0 k (t182 != (-1)) bt173.1 bt173.2.1 bt173.2.2.1 bt173.2.2.2)) else (parolelaw01_examples.j0 k true bt173.1 bt173.2.1 bt173.2.2.1 bt173.2.2.2))) else (parolelaw01_examples.j0 k true bt173.1 bt173.2.1 bt173.2.2.1 bt173.2.2.2)))))) = some r := H
  have A2 := Aside0.mk A20
  clear A20
  replace H := Option.bind_eq_some_iff.mp H
  obtain ⟨⟨t161, t162, t163, t164⟩, A30, H⟩ := H
  replace H : ((paroleref01_Two.f 4 t155 t156 t157 t158 t161 t162 t163 t164).bind fun bt167 => ((paroleref01_Two.f 4 t149 t150 t151 t152 bt167.1 bt167.2.1 bt167.2.2.1 bt167.2.2.2).bind fun bt173 => ((num_Op.f 4 2147483647 1).bind fun t180 => (if t180 = (-2147483648) then ((num_Op.f 7 (-7) 2).bind fun t181 => (if t181 = (-3) then ((num_Op.f 8 (-7) 2).bind fun t182 => (parolelaw01_examples.j0 k (t182 != (-1)) bt173.1 bt173.2.1 bt173.2.2.1 bt173.2.2.2)) else (parolelaw01_examples.j0 k true bt173.1 bt173.2.1 bt173.2.2.1 bt173.2.2.2))) else (parolelaw01_examples.j0 k true bt173.1 bt173.2.1 bt173.2.2.1 bt173.2.2.2))))) = some r := H
  have A3 := Aside0.mk A30
  clear A30
  replace H := Option.bind_eq_some_iff.mp H
  obtain ⟨⟨t167, t168, t169, t170⟩, A40, H⟩ := H
  replace H : ((paroleref01_Two.f 4 t149 t150 t151 t152 t167 t168 t169 t170).bind fun bt173 => ((num_Op.f 4 2147483647 1).bind fun t180 => (if t180 = (-2147483648) then ((num_Op.f 7 (-7) 2).bind fun t181 => (if t181 = (-3) then ((num_Op.f 8 (-7) 2).bind fun t182 => (parolelaw01_examples.j0 k (t182 != (-1)) bt173.1 bt173.2.1 bt173.2.2.1 bt173.2.2.2)) else (parolelaw01_examples.j0 k true bt173.1 bt173.2.1 bt173.2.2.1 bt173.2.2.2))) else (parolelaw01_examples.j0 k true bt173.1 bt173.2.1 bt173.2.2.1 bt173.2.2.2)))) = some r := H
  have A4 := Aside0.mk A40
  clear A40
  replace H := Option.bind_eq_some_iff.mp H
  obtain ⟨⟨t173, t174, t175, t176⟩, A50, H⟩ := H
  replace H : ((num_Op.f 4 2147483647 1).bind fun t180 => (if t180 = (-2147483648) then ((num_Op.f 7 (-7) 2).bind fun t181 => (if t181 = (-3) then ((num_Op.f 8 (-7) 2).bind fun t182 => (parolelaw01_examples.j0 k (t182 != (-1)) t173 t174 t175 t176)) else (parolelaw01_examples.j0 k true t173 t174 t175 t176))) else (parolelaw01_examples.j0 k true t173 t174 t175 t176))) = some r := H
  have A5 := Aside0.mk A50
  clear A50
  have HC6 := Aside0.mk H
  clear H
  go_enter Try.func10, Try.ntmps10
  go_upto_region 2 with (first | ((with_reducible refine gate_callee (f := 13) rfl ?_); refine goesL_ (some 2) rfl rfl Try.func13 (by kernel_rfl) rfl #[.int .i64 1] rfl (by (try simp only [List.map_toArray, List.map_cons, List.map_nil]); first | done | rfl | (simp only [List.length_drop, List.length_take]; rfl)) ?_; (with_reducible refine (paroleref01_Num.calls 1 t149 t150 t151 t152 _ A1.out).mono ?_); rintro e w7 ⟨v153, rfl, ho0, hb⟩; refine ⟨_, rfl, ?_⟩; have n0_ := Aside0.mk (Kd.N_lower (Kd.N_mono (ok' := fun k_ => True) (Kd.R_N (Kd.R_bound ho0)) (fun k_ hk_ => trivial)) (below_size (by repeat (first | (with_reducible first | exact HB.out | apply below_alloc | apply pw_below_drewN | apply below_drew1) | exact HB.out)))); have n1_ := Aside0.mk (below_step (by repeat (first | (with_reducible first | exact HB.out | apply below_alloc | apply pw_below_drewN | apply below_drew1) | exact HB.out)) hb); clear HB; have HO154 := n0_; have HB := n1_; clear n0_ n1_; (try clear hb); (try clear hb2); (try clear hk); (try clear hi); (try clear ho0)) | ((with_reducible refine gate_callee (f := 13) rfl ?_); refine goesL_ (some 3) rfl rfl Try.func13 (by kernel_rfl) rfl #[.int .i64 2] rfl (by (try simp only [List.map_toArray, List.map_cons, List.map_nil]); first | done | rfl | (simp only [List.length_drop, List.length_take]; rfl)) ?_; (with_reducible refine (paroleref01_Num.calls 2 t155 t156 t157 t158 _ A2.out).mono ?_); rintro e w8 ⟨v159, rfl, ho0, hb⟩; refine ⟨_, rfl, ?_⟩; have n0_ := Aside0.mk (Kd.N_elder' (by (with_reducible repeat (first | apply Kd.N_alloc | apply Kd.N_drewN | apply Kd.N_drew)); exact HO154.out) (Kd.R_base ho0) hb); have n1_ := Aside0.mk (Kd.N_lower (Kd.N_mono (ok' := fun k_ => some k_ ≠ (v153 : Value).ownBlock) (Kd.R_N (Kd.R_bound ho0)) (fun k_ hk_ => (Kd.fresh' (Kd.N_lt (by (with_reducible repeat (first | apply Kd.N_alloc | apply Kd.N_drewN | apply Kd.N_drew)); exact HO154.out)) k_ hk_.2.1))) (below_size (by repeat (first | (with_reducible first | exact HB.out | apply below_alloc | apply pw_below_drewN | apply below_drew1) | exact HB.out)))); have n2_ := Aside0.mk (below_step (by repeat (first | (with_reducible first | exact HB.out | apply below_alloc | apply pw_below_drewN | apply below_drew1) | exact HB.out)) hb); clear HO154; clear HB; have HO154 := n0_; have HO160 := n1_; have HB := n2_; clear n0_ n1_ n2_; (try clear hb); (try clear hb2); (try clear hk); (try clear hi); (try clear ho0)) | ((with_reducible refine gate_callee (f := 13) rfl ?_); refine goesL_ (some 4) rfl rfl Try.func13 (by kernel_rfl) rfl #[.int .i64 3] rfl (by (try simp only [List.map_toArray, List.map_cons, List.map_nil]); first | done | rfl | (simp only [List.length_drop, List.length_take]; rfl)) ?_; (with_reducible refine (paroleref01_Num.calls 3 t161 t162 t163 t164 _ A3.out).mono ?_); rintro e w9 ⟨v165, rfl, ho0, hb⟩; refine ⟨_, rfl, ?_⟩; have n0_ := Aside0.mk (Kd.N_elder' (by (with_reducible repeat (first | apply Kd.N_alloc | apply Kd.N_drewN | apply Kd.N_drew)); exact HO154.out) (Kd.R_base ho0) hb); have n1_ := Aside0.mk (Kd.N_elder' (by (with_reducible repeat (first | apply Kd.N_alloc | apply Kd.N_drewN | apply Kd.N_drew)); exact HO160.out) (Kd.R_base ho0) hb); have n2_ := Aside0.mk (Kd.N_lower (Kd.N_mono (ok' := fun k_ => some k_ ≠ (v153 : Value).ownBlock ∧ some k_ ≠ (v159 : Value).ownBlock) (Kd.R_N (Kd.R_bound ho0)) (fun k_ hk_ => ⟨(Kd.fresh' (Kd.N_lt (by (with_reducible repeat (first | apply Kd.N_alloc | apply Kd.N_drewN | apply Kd.N_drew)); exact HO154.out)) k_ hk_.2.1), (Kd.fresh' (Kd.N_lt (by (with_reducible repeat (first | apply Kd.N_alloc | apply Kd.N_drewN | apply Kd.N_drew)); exact HO160.out)) k_ hk_.2.1)⟩)) (below_size (by repeat (first | (with_reducible first | exact HB.out | apply below_alloc | apply pw_below_drewN | apply below_drew1) | exact HB.out)))); have n3_ := Aside0.mk (below_step (by repeat (first | (with_reducible first | exact HB.out | apply below_alloc | apply pw_below_drewN | apply below_drew1) | exact HB.out)) hb); clear HO154; clear HO160; clear HB; have HO154 := n0_; have HO160 := n1_; have HO166 := n2_; have HB := n3_; clear n0_ n1_ n2_ n3_; (try clear hb); (try clear hb2); (try clear hk); (try clear hi); (try clear ho0); obtain ⟨Ao10, co10, eo10⟩ := Kd.N_slice HO160.out; subst eo10; obtain ⟨Ao11, co11, eo11⟩ := Kd.N_slice HO166.out; subst eo11) | ((with_reducible refine gate_callee (f := 36) rfl ?_); refine goesL_ (some 5) rfl rfl Try.func36 (by kernel_rfl) rfl #[.int .i64 4, .agg #[.int .i64 t155, .int .i64 t156, .int .i64 t157, .slice Ao10 t158.length co10], .agg #[.int .i64 t161, .int .i64 t162, .int .i64 t163, .slice Ao11 t164.length co11]] rfl (by (try simp only [List.map_toArray, List.map_cons, List.map_nil]); first | done | rfl | (simp only [List.length_drop, List.length_take]; rfl)) ?_; (with_reducible refine (paroleref01_Two.calls 4 t155 t156 t157 (fun k_ => (some k_ ≠ (v153 : Value).ownBlock ∧ some k_ ≠ (.slice Ao11 t164.length co11 : Value).ownBlock)) _ _ t158 t161 t162 t163 (fun k_ => (some k_ ≠ (v153 : Value).ownBlock ∧ some k_ ≠ (.slice Ao10 t158.length co10 : Value).ownBlock)) _ _ t164 t167 t168 t169 t170 _ ?side1 ?side2 A4.out).mono ?_); (case side1 => exact Kd.N_V (HO160.out)); (case side2 => exact Kd.N_V (HO166.out)); rintro e w12 ⟨v171, rfl, ho0, hb⟩; refine ⟨_, rfl, ?_⟩; have n0_ := Aside0.mk (Kd.N_elder' (by (with_reducible repeat (first | apply Kd.N_alloc | apply Kd.N_drewN | apply Kd.N_drew)); exact HO154.out) (Kd.N_base ho0) hb); have n1_ := Aside0.mk (Kd.N_elder' (by (with_reducible repeat (first | apply Kd.N_alloc | apply Kd.N_drewN | apply Kd.N_drew)); exact HO160.out) (Kd.N_base ho0) hb); have n2_ := Aside0.mk (Kd.N_elder' (by (with_reducible repeat (first | apply Kd.N_alloc | apply Kd.N_drewN | apply Kd.N_drew)); exact HO166.out) (Kd.N_base ho0) hb); have n3_ := Aside0.mk (Kd.N_lower (Kd.N_mono (ok' := fun k_ => some k_ ≠ (v153 : Value).ownBlock) ho0 (fun k_ hk_ => Or.elim hk_ (fun hs_ => Or.elim hs_ (fun hs_ => hs_.1) (fun hs_ => hs_.1)) (fun hn_ => (Kd.fresh' (Kd.N_lt (by (with_reducible repeat (first | apply Kd.N_alloc | apply Kd.N_drewN | apply Kd.N_drew)); exact HO154.out)) k_ hn_)))) (below_size (by repeat (first | (with_reducible first | exact HB.out | apply below_alloc | apply pw_below_drewN | apply below_drew1) | exact HB.out)))); have n4_ := Aside0.mk (below_step (by repeat (first | (with_reducible first | exact HB.out | apply below_alloc | apply pw_below_drewN | apply below_drew1) | exact HB.out)) hb); clear HO154; clear HO160; clear HO166; clear HB; have HO154 := n0_; have HO160 := n1_; have HO166 := n2_; have HO172 := n3_; have HB := n4_; clear n0_ n1_ n2_ n3_ n4_; (try clear hb); (try clear hb2); (try clear hk); (try clear hi); (try clear ho0); obtain ⟨Ao13, co13, eo13⟩ := Kd.N_slice HO154.out; subst eo13; obtain ⟨Ao14, co14, eo14⟩ := Kd.N_slice HO172.out; subst eo14) | ((with_reducible refine gate_callee (f := 36) rfl ?_); refine goesL_ (some 6) rfl rfl Try.func36 (by kernel_rfl) rfl #[.int .i64 4, .agg #[.int .i64 t149, .int .i64 t150, .int .i64 t151, .slice Ao13 t152.length co13], .agg #[.int .i64 t167, .int .i64 t168, .int .i64 t169, .slice Ao14 t170.length co14]] rfl (by (try simp only [List.map_toArray, List.map_cons, List.map_nil]); first | done | rfl | (simp only [List.length_drop, List.length_take]; rfl)) ?_; (with_reducible refine (paroleref01_Two.calls 4 t149 t150 t151 (fun k_ => (((True ∧ some k_ ≠ (.slice Ao10 t158.length co10 : Value).ownBlock) ∧ some k_ ≠ (.slice Ao11 t164.length co11 : Value).ownBlock) ∧ some k_ ≠ (.slice Ao14 t170.length co14 : Value).ownBlock)) _ _ t152 t167 t168 t169 (fun k_ => some k_ ≠ (.slice Ao13 t152.length co13 : Value).ownBlock) _ _ t170 t173 t174 t175 t176 _ ?side1 ?side2 A5.out).mono ?_); (case side1 => exact Kd.N_V (HO154.out)); (case side2 => exact Kd.N_V (HO172.out)); rintro e w15 ⟨v177, rfl, ho0, hb⟩; refine ⟨_, rfl, ?_⟩; have n0_ := Aside0.mk (Kd.N_elder' (by (with_reducible repeat (first | apply Kd.N_alloc | apply Kd.N_drewN | apply Kd.N_drew)); exact HO154.out) (Kd.N_base ho0) hb); have n1_ := Aside0.mk (Kd.N_elder' (by (with_reducible repeat (first | apply Kd.N_alloc | apply Kd.N_drewN | apply Kd.N_drew)); exact HO160.out) (Kd.N_base ho0) hb); have n2_ := Aside0.mk (Kd.N_elder' (by (with_reducible repeat (first | apply Kd.N_alloc | apply Kd.N_drewN | apply Kd.N_drew)); exact HO166.out) (Kd.N_base ho0) hb); have n3_ := Aside0.mk (Kd.N_elder' (by (with_reducible repeat (first | apply Kd.N_alloc | apply Kd.N_drewN | apply Kd.N_drew)); exact HO172.out) (Kd.N_base ho0) hb); have n4_ := Aside0.mk (Kd.N_lower (Kd.N_mono (ok' := fun k_ => True) ho0 (fun k_ hk_ => trivial)) (below_size (by repeat (first | (with_reducible first | exact HB.out | apply below_alloc | apply pw_below_drewN | apply below_drew1) | exact HB.out)))); have n5_ := Aside0.mk (below_step (by repeat (first | (with_reducible first | exact HB.out | apply below_alloc | apply pw_below_drewN | apply below_drew1) | exact HB.out)) hb); clear HO154; clear HO160; clear HO166; clear HO172; clear HB; have HO154 := n0_; have HO160 := n1_; have HO166 := n2_; have HO172 := n3_; have HO178 := n4_; have HB := n5_; clear n0_ n1_ n2_ n3_ n4_ n5_; (try clear hb); (try clear hb2); (try clear hk); (try clear hi); (try clear ho0)) | ((with_reducible refine gate_dst (N := 1) rfl ?_); refine box_event ?hg (N := 1) ?hd (cs := #[.int .i64 0, .int .i64 0, .int .i64 0, .slice none 0 0]) (t := 29) ?hr ?_; (case hd => rfl); (case hg => rfl); (case hr => first | (go_simp; done) | (go_simp; rfl)); intro gb179 hg w16 hbox hb; have n0_ := Aside0.mk (Kd.N_below (Kd.N_elderB (by (with_reducible repeat (first | apply Kd.N_alloc | apply Kd.N_drewN | apply Kd.N_drew)); exact HO154.out) gb179 (Nat.le_of_eq hg.symm)) hb); have n1_ := Aside0.mk (Kd.N_below (Kd.N_elderB (by (with_reducible repeat (first | apply Kd.N_alloc | apply Kd.N_drewN | apply Kd.N_drew)); exact HO160.out) gb179 (Nat.le_of_eq hg.symm)) hb); have n2_ := Aside0.mk (Kd.N_below (Kd.N_elderB (by (with_reducible repeat (first | apply Kd.N_alloc | apply Kd.N_drewN | apply Kd.N_drew)); exact HO166.out) gb179 (Nat.le_of_eq hg.symm)) hb); have n3_ := Aside0.mk (Kd.N_below (Kd.N_elderB (by (with_reducible repeat (first | apply Kd.N_alloc | apply Kd.N_drewN | apply Kd.N_drew)); exact HO172.out) gb179 (Nat.le_of_eq hg.symm)) hb); have n4_ := Aside0.mk (Kd.N_below (Kd.N_elderB (by (with_reducible repeat (first | apply Kd.N_alloc | apply Kd.N_drewN | apply Kd.N_drew)); exact HO178.out) gb179 (Nat.le_of_eq hg.symm)) hb); have n5_ := Aside0.mk (below_step (by repeat (first | (with_reducible first | exact HB.out | apply below_alloc | apply pw_below_drewN | apply below_drew1) | exact HB.out)) hb); have n6_ := Aside0.mk (hbox); have n7_ := Aside0.mk ((by rw [hg]; exact (below_size (by repeat (first | (with_reducible first | exact HB.out | apply below_alloc | apply pw_below_drewN | apply below_drew1) | exact HB.out))) : w.heap.size ≤ gb179)); have n8_ := Aside0.mk ((by rw [hg]; exact (below_size (by repeat (first | (with_reducible first | exact HB.out | apply below_alloc | apply pw_below_drewN | apply below_drew1) | exact HB.out))) : w.heap.size ≤ gb179)); clear HO154; clear HO160; clear HO166; clear HO172; clear HO178; clear HB; have HO154 := n0_; have HO160 := n1_; have HO166 := n2_; have HO172 := n3_; have HO178 := n4_; have HB := n5_; have BK179 := n6_; have GW179 := n7_; have GE179 := n8_; clear n0_ n1_ n2_ n3_ n4_ n5_ n6_ n7_ n8_; clear hb hbox hg; have hcz17_0 : w16.cell? ⟨gb179, 0, none⟩ = some (.int .i64 0) := (blk_cell BK179.out 0).trans rfl; have hcz17_1 : w16.cell? ⟨gb179, 1, none⟩ = some (.int .i64 0) := (blk_cell BK179.out 1).trans rfl; have hcz17_2 : w16.cell? ⟨gb179, 2, none⟩ = some (.int .i64 0) := (blk_cell BK179.out 2).trans rfl; have hcz17_3 : w16.cell? ⟨gb179, 3, none⟩ = some (.slice none 0 0) := (blk_cell BK179.out 3).trans rfl; have hfz17_0 := blk_frozen BK179.out 0; have hfz17_1 := blk_frozen BK179.out 1; have hfz17_2 := blk_frozen BK179.out 2; have hfz17_3 := blk_frozen BK179.out 3; obtain ⟨Ao18, co18, eo18⟩ := Kd.N_slice HO178.out; subst eo18))
  (try simp only [Act.put, List.setIfInBounds_toArray, List.set_cons_zero, List.set_cons_succ])
  go_cut [16] (fun v16 wc => ∃ (kq : Nat) (x16_5 : Bool), v16 = .bool x16_5 ∧ Aside0 (parolelaw01_examples.j0 kq x16_5 t173 t174 t175 t176 = some r) ∧ Aside0 (kq ≤ k) ∧ Aside0 (Kd.N k29 29 wc w.heap.size (fun k_ => k_ ≠ gb179) (.slice Ao18 t176.length co18) t176) ∧ Aside0 (wc.heap[gb179]? = some (.cells #[.int .i64 t173, .int .i64 t174, .int .i64 t175, (.slice Ao18 t176.length co18)] 29 (0, 0))) ∧ Aside0 (Below w.heap.size w wc))
  case first =>
    have H := HC6.out
    clear HC6
    replace H := Option.bind_eq_some_iff.mp H
    obtain ⟨t180, A190, H⟩ := H
    replace H : (if t180 = (-2147483648) then ((num_Op.f 7 (-7) 2).bind fun t181 => (if t181 = (-3) then ((num_Op.f 8 (-7) 2).bind fun t182 => (parolelaw01_examples.j0 k (t182 != (-1)) t173 t174 t175 t176)) else (parolelaw01_examples.j0 k true t173 t174 t175 t176))) else (parolelaw01_examples.j0 k true t173 t174 t175 t176)) = some r := H
    have A19 := Aside0.mk A190
    clear A190
    by_cases c20 : t180 = (-2147483648)
    · rw [if_pos c20] at H
      have c20b0 : (t180 == (-2147483648)) = true := beq_iff_eq.mpr c20
      have c20b1 : (t180 != (-2147483648)) = false := bne_eq_false_iff_eq.mpr c20
      clear c20
      (first | rw [c20b0] | (simp only [i64_w, i32_w]; rw [c20b0]) | skip)
      replace H := Option.bind_eq_some_iff.mp H
      obtain ⟨t181, A210, H⟩ := H
      replace H : (if t181 = (-3) then ((num_Op.f 8 (-7) 2).bind fun t182 => (parolelaw01_examples.j0 k (t182 != (-1)) t173 t174 t175 t176)) else (parolelaw01_examples.j0 k true t173 t174 t175 t176)) = some r := H
      have A21 := Aside0.mk A210
      clear A210
      by_cases c22 : t181 = (-3)
      · rw [if_pos c22] at H
        have c22b0 : (t181 == (-3)) = true := beq_iff_eq.mpr c22
        have c22b1 : (t181 != (-3)) = false := bne_eq_false_iff_eq.mpr c22
        clear c22
        replace H := Option.bind_eq_some_iff.mp H
        obtain ⟨t182, A230, H⟩ := H
        replace H : (parolelaw01_examples.j0 k (t182 != (-1)) t173 t174 t175 t176) = some r := H
        have A23 := Aside0.mk A230
        clear A230
        have H' := Aside0.mk H
        clear H
        go_wp2_with (first | ((with_reducible refine gate_callee (f := 11) rfl ?_); refine goesL_ (some 7) rfl rfl Try.func11 (by kernel_rfl) rfl #[.int .i64 4, .int .i64 2147483647, .int .i64 1] rfl (by (try simp only [List.map_toArray, List.map_cons, List.map_nil]); first | done | rfl | (simp only [List.length_drop, List.length_take]; rfl)) ?_; (with_reducible refine (num_Op.calls 4 2147483647 1 t180 _ A19.out).mono ?_); rintro e w24 ⟨rfl, hb⟩; refine ⟨_, rfl, ?_⟩; have n0_ := Aside0.mk (Kd.N_below (by (with_reducible repeat (first | apply Kd.N_alloc | apply Kd.N_drewN | apply Kd.N_drew)); exact (Kd.N_mono (Kd.N_far (p := ⟨gb179, 3, none⟩) (Kd.N_far (p := ⟨gb179, 2, none⟩) (Kd.N_far (p := ⟨gb179, 1, none⟩) (Kd.N_far (p := ⟨gb179, 0, none⟩) (Kd.N_mono HO154.out (fun k_ hk => (⟨hk, hk.2⟩ : _ ∧ k_ ≠ gb179))) (fun _ hk => hk.2) (.int .i64 t173)) (fun _ hk => hk.2) (.int .i64 t174)) (fun _ hk => hk.2) (.int .i64 t175)) (fun _ hk => hk.2) (.slice Ao18 t176.length co18)) (fun _ h_ => h_.1))) hb); have n1_ := Aside0.mk (Kd.N_below (by (with_reducible repeat (first | apply Kd.N_alloc | apply Kd.N_drewN | apply Kd.N_drew)); exact (Kd.N_mono (Kd.N_far (p := ⟨gb179, 3, none⟩) (Kd.N_far (p := ⟨gb179, 2, none⟩) (Kd.N_far (p := ⟨gb179, 1, none⟩) (Kd.N_far (p := ⟨gb179, 0, none⟩) (Kd.N_mono HO160.out (fun k_ hk => (⟨hk, hk.2⟩ : _ ∧ k_ ≠ gb179))) (fun _ hk => hk.2) (.int .i64 t173)) (fun _ hk => hk.2) (.int .i64 t174)) (fun _ hk => hk.2) (.int .i64 t175)) (fun _ hk => hk.2) (.slice Ao18 t176.length co18)) (fun _ h_ => h_.1))) hb); have n2_ := Aside0.mk (Kd.N_below (by (with_reducible repeat (first | apply Kd.N_alloc | apply Kd.N_drewN | apply Kd.N_drew)); exact (Kd.N_mono (Kd.N_far (p := ⟨gb179, 3, none⟩) (Kd.N_far (p := ⟨gb179, 2, none⟩) (Kd.N_far (p := ⟨gb179, 1, none⟩) (Kd.N_far (p := ⟨gb179, 0, none⟩) (Kd.N_mono HO166.out (fun k_ hk => (⟨hk, hk.2⟩ : _ ∧ k_ ≠ gb179))) (fun _ hk => hk.2) (.int .i64 t173)) (fun _ hk => hk.2) (.int .i64 t174)) (fun _ hk => hk.2) (.int .i64 t175)) (fun _ hk => hk.2) (.slice Ao18 t176.length co18)) (fun _ h_ => h_.1))) hb); have n3_ := Aside0.mk (Kd.N_below (by (with_reducible repeat (first | apply Kd.N_alloc | apply Kd.N_drewN | apply Kd.N_drew)); exact (Kd.N_mono (Kd.N_far (p := ⟨gb179, 3, none⟩) (Kd.N_far (p := ⟨gb179, 2, none⟩) (Kd.N_far (p := ⟨gb179, 1, none⟩) (Kd.N_far (p := ⟨gb179, 0, none⟩) (Kd.N_mono HO172.out (fun k_ hk => (⟨hk, hk.2⟩ : _ ∧ k_ ≠ gb179))) (fun _ hk => hk.2) (.int .i64 t173)) (fun _ hk => hk.2) (.int .i64 t174)) (fun _ hk => hk.2) (.int .i64 t175)) (fun _ hk => hk.2) (.slice Ao18 t176.length co18)) (fun _ h_ => h_.1))) hb); have n4_ := Aside0.mk (Kd.N_below (by (with_reducible repeat (first | apply Kd.N_alloc | apply Kd.N_drewN | apply Kd.N_drew)); exact (Kd.N_mono (Kd.N_far (p := ⟨gb179, 3, none⟩) (Kd.N_far (p := ⟨gb179, 2, none⟩) (Kd.N_far (p := ⟨gb179, 1, none⟩) (Kd.N_far (p := ⟨gb179, 0, none⟩) (Kd.N_mono HO178.out (fun k_ hk => (⟨hk, hk.2⟩ : _ ∧ k_ ≠ gb179))) (fun _ hk => hk.2) (.int .i64 t173)) (fun _ hk => hk.2) (.int .i64 t174)) (fun _ hk => hk.2) (.int .i64 t175)) (fun _ hk => hk.2) (.slice Ao18 t176.length co18)) (fun _ h_ => h_.1))) hb); have n5_ := Aside0.mk (blk_below (g := gb179) (o := .cells #[.int .i64 t173, .int .i64 t174, .int .i64 t175, .slice Ao18 t176.length co18] 29 (0, 0)) (by (with_reducible repeat (first | refine blk_drewN ?_ _ | refine blk_drew ?_ | refine blk_alloc ?_ _)); refine blk_put (cs := #[.int .i64 t173, .int .i64 t174, .int .i64 t175, .slice none 0 0]) ?_ 3 _ rfl; (with_reducible repeat (first | refine blk_drewN ?_ _ | refine blk_drew ?_ | refine blk_alloc ?_ _)); refine blk_put (cs := #[.int .i64 t173, .int .i64 t174, .int .i64 0, .slice none 0 0]) ?_ 2 _ rfl; (with_reducible repeat (first | refine blk_drewN ?_ _ | refine blk_drew ?_ | refine blk_alloc ?_ _)); refine blk_put (cs := #[.int .i64 t173, .int .i64 0, .int .i64 0, .slice none 0 0]) ?_ 1 _ rfl; (with_reducible repeat (first | refine blk_drewN ?_ _ | refine blk_drew ?_ | refine blk_alloc ?_ _)); refine blk_put (cs := #[.int .i64 0, .int .i64 0, .int .i64 0, .slice none 0 0]) ?_ 0 _ rfl; (with_reducible repeat (first | refine blk_drewN ?_ _ | refine blk_drew ?_ | refine blk_alloc ?_ _)); exact BK179.out) hb); have n6_ := Aside0.mk (below_step (by repeat (first | (with_reducible first | exact HB.out | apply below_alloc | apply pw_below_drewN | apply below_drew1 | refine below_set ?_ GE179.out) | exact HB.out)) hb); clear HO154; clear HO160; clear HO166; clear HO172; clear HO178; clear BK179; clear HB; have HO154 := n0_; have HO160 := n1_; have HO166 := n2_; have HO172 := n3_; have HO178 := n4_; have BK179 := n5_; have HB := n6_; clear n0_ n1_ n2_ n3_ n4_ n5_ n6_; (try clear hb); (try clear hb2); (try clear hk); (try clear hi)) | (go_at_call 11; (with_reducible refine (num_Op.calls 7 (-7) 2 t181 _ A21.out).mono ?_); rintro e w25 ⟨rfl, hb⟩; have n0_ := Aside0.mk (Kd.N_below (by (with_reducible repeat (first | apply Kd.N_alloc | apply Kd.N_drewN | apply Kd.N_drew)); exact HO154.out) hb); have n1_ := Aside0.mk (Kd.N_below (by (with_reducible repeat (first | apply Kd.N_alloc | apply Kd.N_drewN | apply Kd.N_drew)); exact HO160.out) hb); have n2_ := Aside0.mk (Kd.N_below (by (with_reducible repeat (first | apply Kd.N_alloc | apply Kd.N_drewN | apply Kd.N_drew)); exact HO166.out) hb); have n3_ := Aside0.mk (Kd.N_below (by (with_reducible repeat (first | apply Kd.N_alloc | apply Kd.N_drewN | apply Kd.N_drew)); exact HO172.out) hb); have n4_ := Aside0.mk (Kd.N_below (by (with_reducible repeat (first | apply Kd.N_alloc | apply Kd.N_drewN | apply Kd.N_drew)); exact HO178.out) hb); have n5_ := Aside0.mk (blk_below (g := gb179) (o := .cells #[.int .i64 t173, .int .i64 t174, .int .i64 t175, .slice Ao18 t176.length co18] 29 (0, 0)) (by (with_reducible repeat (first | refine blk_drewN ?_ _ | refine blk_drew ?_ | refine blk_alloc ?_ _)); exact BK179.out) hb); have n6_ := Aside0.mk (below_step (by repeat (first | (with_reducible first | exact HB.out | apply below_alloc | apply pw_below_drewN | apply below_drew1 | refine below_set ?_ GE179.out) | exact HB.out)) hb); clear HO154; clear HO160; clear HO166; clear HO172; clear HO178; clear BK179; clear HB; have HO154 := n0_; have HO160 := n1_; have HO166 := n2_; have HO172 := n3_; have HO178 := n4_; have BK179 := n5_; have HB := n6_; clear n0_ n1_ n2_ n3_ n4_ n5_ n6_; (try clear hb); (try clear hb2); (try clear hk); (try clear hi)) | (go_at_call 11; (with_reducible refine (num_Op.calls 8 (-7) 2 t182 _ A23.out).mono ?_); rintro e w26 ⟨rfl, hb⟩; have n0_ := Aside0.mk (Kd.N_below (by (with_reducible repeat (first | apply Kd.N_alloc | apply Kd.N_drewN | apply Kd.N_drew)); exact HO154.out) hb); have n1_ := Aside0.mk (Kd.N_below (by (with_reducible repeat (first | apply Kd.N_alloc | apply Kd.N_drewN | apply Kd.N_drew)); exact HO160.out) hb); have n2_ := Aside0.mk (Kd.N_below (by (with_reducible repeat (first | apply Kd.N_alloc | apply Kd.N_drewN | apply Kd.N_drew)); exact HO166.out) hb); have n3_ := Aside0.mk (Kd.N_below (by (with_reducible repeat (first | apply Kd.N_alloc | apply Kd.N_drewN | apply Kd.N_drew)); exact HO172.out) hb); have n4_ := Aside0.mk (Kd.N_below (by (with_reducible repeat (first | apply Kd.N_alloc | apply Kd.N_drewN | apply Kd.N_drew)); exact HO178.out) hb); have n5_ := Aside0.mk (blk_below (g := gb179) (o := .cells #[.int .i64 t173, .int .i64 t174, .int .i64 t175, .slice Ao18 t176.length co18] 29 (0, 0)) (by (with_reducible repeat (first | refine blk_drewN ?_ _ | refine blk_drew ?_ | refine blk_alloc ?_ _)); exact BK179.out) hb); have n6_ := Aside0.mk (below_step (by repeat (first | (with_reducible first | exact HB.out | apply below_alloc | apply pw_below_drewN | apply below_drew1 | refine below_set ?_ GE179.out) | exact HB.out)) hb); clear HO154; clear HO160; clear HO166; clear HO172; clear HO178; clear BK179; clear HB; have HO154 := n0_; have HO160 := n1_; have HO166 := n2_; have HO172 := n3_; have HO178 := n4_; have BK179 := n5_; have HB := n6_; clear n0_ n1_ n2_ n3_ n4_ n5_ n6_; (try clear hb); (try clear hb2); (try clear hk); (try clear hi)))
        go_meet
        case rel => exact ⟨_, ((t182 != (-1))), (by first | rfl | (simp; done) | (simp [*]; done)), H', ⟨by first | omega | exact Nat.le_refl _⟩, ⟨by (with_reducible repeat (first | apply Kd.N_alloc | apply Kd.N_drewN | apply Kd.N_drew)); exact Kd.N_mono HO178.out (fun _ hk => hk.2)⟩, ⟨by (with_reducible repeat (first | refine blk_drewN ?_ _ | refine blk_drew ?_ | refine blk_alloc ?_ _)); exact BK179.out⟩, ⟨by repeat (first | (with_reducible first | exact HB.out | apply below_alloc | apply pw_below_drewN | apply below_drew1 | refine below_set ?_ GE179.out) | exact HB.out)⟩⟩
      · rw [if_neg c22] at H
        have c22b0 : (t181 == (-3)) = false := beq_eq_false_iff_ne.mpr c22
        have c22b1 : (t181 != (-3)) = true := bne_iff_ne.mpr c22
        have H' := Aside0.mk H
        clear H
        go_wp2_with (first | ((with_reducible refine gate_callee (f := 11) rfl ?_); refine goesL_ (some 7) rfl rfl Try.func11 (by kernel_rfl) rfl #[.int .i64 4, .int .i64 2147483647, .int .i64 1] rfl (by (try simp only [List.map_toArray, List.map_cons, List.map_nil]); first | done | rfl | (simp only [List.length_drop, List.length_take]; rfl)) ?_; (with_reducible refine (num_Op.calls 4 2147483647 1 t180 _ A19.out).mono ?_); rintro e w27 ⟨rfl, hb⟩; refine ⟨_, rfl, ?_⟩; have n0_ := Aside0.mk (Kd.N_below (by (with_reducible repeat (first | apply Kd.N_alloc | apply Kd.N_drewN | apply Kd.N_drew)); exact (Kd.N_mono (Kd.N_far (p := ⟨gb179, 3, none⟩) (Kd.N_far (p := ⟨gb179, 2, none⟩) (Kd.N_far (p := ⟨gb179, 1, none⟩) (Kd.N_far (p := ⟨gb179, 0, none⟩) (Kd.N_mono HO154.out (fun k_ hk => (⟨hk, hk.2⟩ : _ ∧ k_ ≠ gb179))) (fun _ hk => hk.2) (.int .i64 t173)) (fun _ hk => hk.2) (.int .i64 t174)) (fun _ hk => hk.2) (.int .i64 t175)) (fun _ hk => hk.2) (.slice Ao18 t176.length co18)) (fun _ h_ => h_.1))) hb); have n1_ := Aside0.mk (Kd.N_below (by (with_reducible repeat (first | apply Kd.N_alloc | apply Kd.N_drewN | apply Kd.N_drew)); exact (Kd.N_mono (Kd.N_far (p := ⟨gb179, 3, none⟩) (Kd.N_far (p := ⟨gb179, 2, none⟩) (Kd.N_far (p := ⟨gb179, 1, none⟩) (Kd.N_far (p := ⟨gb179, 0, none⟩) (Kd.N_mono HO160.out (fun k_ hk => (⟨hk, hk.2⟩ : _ ∧ k_ ≠ gb179))) (fun _ hk => hk.2) (.int .i64 t173)) (fun _ hk => hk.2) (.int .i64 t174)) (fun _ hk => hk.2) (.int .i64 t175)) (fun _ hk => hk.2) (.slice Ao18 t176.length co18)) (fun _ h_ => h_.1))) hb); have n2_ := Aside0.mk (Kd.N_below (by (with_reducible repeat (first | apply Kd.N_alloc | apply Kd.N_drewN | apply Kd.N_drew)); exact (Kd.N_mono (Kd.N_far (p := ⟨gb179, 3, none⟩) (Kd.N_far (p := ⟨gb179, 2, none⟩) (Kd.N_far (p := ⟨gb179, 1, none⟩) (Kd.N_far (p := ⟨gb179, 0, none⟩) (Kd.N_mono HO166.out (fun k_ hk => (⟨hk, hk.2⟩ : _ ∧ k_ ≠ gb179))) (fun _ hk => hk.2) (.int .i64 t173)) (fun _ hk => hk.2) (.int .i64 t174)) (fun _ hk => hk.2) (.int .i64 t175)) (fun _ hk => hk.2) (.slice Ao18 t176.length co18)) (fun _ h_ => h_.1))) hb); have n3_ := Aside0.mk (Kd.N_below (by (with_reducible repeat (first | apply Kd.N_alloc | apply Kd.N_drewN | apply Kd.N_drew)); exact (Kd.N_mono (Kd.N_far (p := ⟨gb179, 3, none⟩) (Kd.N_far (p := ⟨gb179, 2, none⟩) (Kd.N_far (p := ⟨gb179, 1, none⟩) (Kd.N_far (p := ⟨gb179, 0, none⟩) (Kd.N_mono HO172.out (fun k_ hk => (⟨hk, hk.2⟩ : _ ∧ k_ ≠ gb179))) (fun _ hk => hk.2) (.int .i64 t173)) (fun _ hk => hk.2) (.int .i64 t174)) (fun _ hk => hk.2) (.int .i64 t175)) (fun _ hk => hk.2) (.slice Ao18 t176.length co18)) (fun _ h_ => h_.1))) hb); have n4_ := Aside0.mk (Kd.N_below (by (with_reducible repeat (first | apply Kd.N_alloc | apply Kd.N_drewN | apply Kd.N_drew)); exact (Kd.N_mono (Kd.N_far (p := ⟨gb179, 3, none⟩) (Kd.N_far (p := ⟨gb179, 2, none⟩) (Kd.N_far (p := ⟨gb179, 1, none⟩) (Kd.N_far (p := ⟨gb179, 0, none⟩) (Kd.N_mono HO178.out (fun k_ hk => (⟨hk, hk.2⟩ : _ ∧ k_ ≠ gb179))) (fun _ hk => hk.2) (.int .i64 t173)) (fun _ hk => hk.2) (.int .i64 t174)) (fun _ hk => hk.2) (.int .i64 t175)) (fun _ hk => hk.2) (.slice Ao18 t176.length co18)) (fun _ h_ => h_.1))) hb); have n5_ := Aside0.mk (blk_below (g := gb179) (o := .cells #[.int .i64 t173, .int .i64 t174, .int .i64 t175, .slice Ao18 t176.length co18] 29 (0, 0)) (by (with_reducible repeat (first | refine blk_drewN ?_ _ | refine blk_drew ?_ | refine blk_alloc ?_ _)); refine blk_put (cs := #[.int .i64 t173, .int .i64 t174, .int .i64 t175, .slice none 0 0]) ?_ 3 _ rfl; (with_reducible repeat (first | refine blk_drewN ?_ _ | refine blk_drew ?_ | refine blk_alloc ?_ _)); refine blk_put (cs := #[.int .i64 t173, .int .i64 t174, .int .i64 0, .slice none 0 0]) ?_ 2 _ rfl; (with_reducible repeat (first | refine blk_drewN ?_ _ | refine blk_drew ?_ | refine blk_alloc ?_ _)); refine blk_put (cs := #[.int .i64 t173, .int .i64 0, .int .i64 0, .slice none 0 0]) ?_ 1 _ rfl; (with_reducible repeat (first | refine blk_drewN ?_ _ | refine blk_drew ?_ | refine blk_alloc ?_ _)); refine blk_put (cs := #[.int .i64 0, .int .i64 0, .int .i64 0, .slice none 0 0]) ?_ 0 _ rfl; (with_reducible repeat (first | refine blk_drewN ?_ _ | refine blk_drew ?_ | refine blk_alloc ?_ _)); exact BK179.out) hb); have n6_ := Aside0.mk (below_step (by repeat (first | (with_reducible first | exact HB.out | apply below_alloc | apply pw_below_drewN | apply below_drew1 | refine below_set ?_ GE179.out) | exact HB.out)) hb); clear HO154; clear HO160; clear HO166; clear HO172; clear HO178; clear BK179; clear HB; have HO154 := n0_; have HO160 := n1_; have HO166 := n2_; have HO172 := n3_; have HO178 := n4_; have BK179 := n5_; have HB := n6_; clear n0_ n1_ n2_ n3_ n4_ n5_ n6_; (try clear hb); (try clear hb2); (try clear hk); (try clear hi)) | (go_at_call 11; (with_reducible refine (num_Op.calls 7 (-7) 2 t181 _ A21.out).mono ?_); rintro e w28 ⟨rfl, hb⟩; have n0_ := Aside0.mk (Kd.N_below (by (with_reducible repeat (first | apply Kd.N_alloc | apply Kd.N_drewN | apply Kd.N_drew)); exact HO154.out) hb); have n1_ := Aside0.mk (Kd.N_below (by (with_reducible repeat (first | apply Kd.N_alloc | apply Kd.N_drewN | apply Kd.N_drew)); exact HO160.out) hb); have n2_ := Aside0.mk (Kd.N_below (by (with_reducible repeat (first | apply Kd.N_alloc | apply Kd.N_drewN | apply Kd.N_drew)); exact HO166.out) hb); have n3_ := Aside0.mk (Kd.N_below (by (with_reducible repeat (first | apply Kd.N_alloc | apply Kd.N_drewN | apply Kd.N_drew)); exact HO172.out) hb); have n4_ := Aside0.mk (Kd.N_below (by (with_reducible repeat (first | apply Kd.N_alloc | apply Kd.N_drewN | apply Kd.N_drew)); exact HO178.out) hb); have n5_ := Aside0.mk (blk_below (g := gb179) (o := .cells #[.int .i64 t173, .int .i64 t174, .int .i64 t175, .slice Ao18 t176.length co18] 29 (0, 0)) (by (with_reducible repeat (first | refine blk_drewN ?_ _ | refine blk_drew ?_ | refine blk_alloc ?_ _)); exact BK179.out) hb); have n6_ := Aside0.mk (below_step (by repeat (first | (with_reducible first | exact HB.out | apply below_alloc | apply pw_below_drewN | apply below_drew1 | refine below_set ?_ GE179.out) | exact HB.out)) hb); clear HO154; clear HO160; clear HO166; clear HO172; clear HO178; clear BK179; clear HB; have HO154 := n0_; have HO160 := n1_; have HO166 := n2_; have HO172 := n3_; have HO178 := n4_; have BK179 := n5_; have HB := n6_; clear n0_ n1_ n2_ n3_ n4_ n5_ n6_; (try clear hb); (try clear hb2); (try clear hk); (try clear hi)))
        go_meet
        case rel => exact ⟨_, (true), (by first | rfl | (simp; done) | (simp [*]; done)), H', ⟨by first | omega | exact Nat.le_refl _⟩, ⟨by (with_reducible repeat (first | apply Kd.N_alloc | apply Kd.N_drewN | apply Kd.N_drew)); exact Kd.N_mono HO178.out (fun _ hk => hk.2)⟩, ⟨by (with_reducible repeat (first | refine blk_drewN ?_ _ | refine blk_drew ?_ | refine blk_alloc ?_ _)); exact BK179.out⟩, ⟨by repeat (first | (with_reducible first | exact HB.out | apply below_alloc | apply pw_below_drewN | apply below_drew1 | refine below_set ?_ GE179.out) | exact HB.out)⟩⟩
    · rw [if_neg c20] at H
      have c20b0 : (t180 == (-2147483648)) = false := beq_eq_false_iff_ne.mpr c20
      have c20b1 : (t180 != (-2147483648)) = true := bne_iff_ne.mpr c20
      (first | rw [c20b0] | (simp only [i64_w, i32_w]; rw [c20b0]) | skip)
      have H' := Aside0.mk H
      clear H
      go_wp2_with (first | ((with_reducible refine gate_callee (f := 11) rfl ?_); refine goesL_ (some 7) rfl rfl Try.func11 (by kernel_rfl) rfl #[.int .i64 4, .int .i64 2147483647, .int .i64 1] rfl (by (try simp only [List.map_toArray, List.map_cons, List.map_nil]); first | done | rfl | (simp only [List.length_drop, List.length_take]; rfl)) ?_; (with_reducible refine (num_Op.calls 4 2147483647 1 t180 _ A19.out).mono ?_); rintro e w29 ⟨rfl, hb⟩; refine ⟨_, rfl, ?_⟩; have n0_ := Aside0.mk (Kd.N_below (by (with_reducible repeat (first | apply Kd.N_alloc | apply Kd.N_drewN | apply Kd.N_drew)); exact (Kd.N_mono (Kd.N_far (p := ⟨gb179, 3, none⟩) (Kd.N_far (p := ⟨gb179, 2, none⟩) (Kd.N_far (p := ⟨gb179, 1, none⟩) (Kd.N_far (p := ⟨gb179, 0, none⟩) (Kd.N_mono HO154.out (fun k_ hk => (⟨hk, hk.2⟩ : _ ∧ k_ ≠ gb179))) (fun _ hk => hk.2) (.int .i64 t173)) (fun _ hk => hk.2) (.int .i64 t174)) (fun _ hk => hk.2) (.int .i64 t175)) (fun _ hk => hk.2) (.slice Ao18 t176.length co18)) (fun _ h_ => h_.1))) hb); have n1_ := Aside0.mk (Kd.N_below (by (with_reducible repeat (first | apply Kd.N_alloc | apply Kd.N_drewN | apply Kd.N_drew)); exact (Kd.N_mono (Kd.N_far (p := ⟨gb179, 3, none⟩) (Kd.N_far (p := ⟨gb179, 2, none⟩) (Kd.N_far (p := ⟨gb179, 1, none⟩) (Kd.N_far (p := ⟨gb179, 0, none⟩) (Kd.N_mono HO160.out (fun k_ hk => (⟨hk, hk.2⟩ : _ ∧ k_ ≠ gb179))) (fun _ hk => hk.2) (.int .i64 t173)) (fun _ hk => hk.2) (.int .i64 t174)) (fun _ hk => hk.2) (.int .i64 t175)) (fun _ hk => hk.2) (.slice Ao18 t176.length co18)) (fun _ h_ => h_.1))) hb); have n2_ := Aside0.mk (Kd.N_below (by (with_reducible repeat (first | apply Kd.N_alloc | apply Kd.N_drewN | apply Kd.N_drew)); exact (Kd.N_mono (Kd.N_far (p := ⟨gb179, 3, none⟩) (Kd.N_far (p := ⟨gb179, 2, none⟩) (Kd.N_far (p := ⟨gb179, 1, none⟩) (Kd.N_far (p := ⟨gb179, 0, none⟩) (Kd.N_mono HO166.out (fun k_ hk => (⟨hk, hk.2⟩ : _ ∧ k_ ≠ gb179))) (fun _ hk => hk.2) (.int .i64 t173)) (fun _ hk => hk.2) (.int .i64 t174)) (fun _ hk => hk.2) (.int .i64 t175)) (fun _ hk => hk.2) (.slice Ao18 t176.length co18)) (fun _ h_ => h_.1))) hb); have n3_ := Aside0.mk (Kd.N_below (by (with_reducible repeat (first | apply Kd.N_alloc | apply Kd.N_drewN | apply Kd.N_drew)); exact (Kd.N_mono (Kd.N_far (p := ⟨gb179, 3, none⟩) (Kd.N_far (p := ⟨gb179, 2, none⟩) (Kd.N_far (p := ⟨gb179, 1, none⟩) (Kd.N_far (p := ⟨gb179, 0, none⟩) (Kd.N_mono HO172.out (fun k_ hk => (⟨hk, hk.2⟩ : _ ∧ k_ ≠ gb179))) (fun _ hk => hk.2) (.int .i64 t173)) (fun _ hk => hk.2) (.int .i64 t174)) (fun _ hk => hk.2) (.int .i64 t175)) (fun _ hk => hk.2) (.slice Ao18 t176.length co18)) (fun _ h_ => h_.1))) hb); have n4_ := Aside0.mk (Kd.N_below (by (with_reducible repeat (first | apply Kd.N_alloc | apply Kd.N_drewN | apply Kd.N_drew)); exact (Kd.N_mono (Kd.N_far (p := ⟨gb179, 3, none⟩) (Kd.N_far (p := ⟨gb179, 2, none⟩) (Kd.N_far (p := ⟨gb179, 1, none⟩) (Kd.N_far (p := ⟨gb179, 0, none⟩) (Kd.N_mono HO178.out (fun k_ hk => (⟨hk, hk.2⟩ : _ ∧ k_ ≠ gb179))) (fun _ hk => hk.2) (.int .i64 t173)) (fun _ hk => hk.2) (.int .i64 t174)) (fun _ hk => hk.2) (.int .i64 t175)) (fun _ hk => hk.2) (.slice Ao18 t176.length co18)) (fun _ h_ => h_.1))) hb); have n5_ := Aside0.mk (blk_below (g := gb179) (o := .cells #[.int .i64 t173, .int .i64 t174, .int .i64 t175, .slice Ao18 t176.length co18] 29 (0, 0)) (by (with_reducible repeat (first | refine blk_drewN ?_ _ | refine blk_drew ?_ | refine blk_alloc ?_ _)); refine blk_put (cs := #[.int .i64 t173, .int .i64 t174, .int .i64 t175, .slice none 0 0]) ?_ 3 _ rfl; (with_reducible repeat (first | refine blk_drewN ?_ _ | refine blk_drew ?_ | refine blk_alloc ?_ _)); refine blk_put (cs := #[.int .i64 t173, .int .i64 t174, .int .i64 0, .slice none 0 0]) ?_ 2 _ rfl; (with_reducible repeat (first | refine blk_drewN ?_ _ | refine blk_drew ?_ | refine blk_alloc ?_ _)); refine blk_put (cs := #[.int .i64 t173, .int .i64 0, .int .i64 0, .slice none 0 0]) ?_ 1 _ rfl; (with_reducible repeat (first | refine blk_drewN ?_ _ | refine blk_drew ?_ | refine blk_alloc ?_ _)); refine blk_put (cs := #[.int .i64 0, .int .i64 0, .int .i64 0, .slice none 0 0]) ?_ 0 _ rfl; (with_reducible repeat (first | refine blk_drewN ?_ _ | refine blk_drew ?_ | refine blk_alloc ?_ _)); exact BK179.out) hb); have n6_ := Aside0.mk (below_step (by repeat (first | (with_reducible first | exact HB.out | apply below_alloc | apply pw_below_drewN | apply below_drew1 | refine below_set ?_ GE179.out) | exact HB.out)) hb); clear HO154; clear HO160; clear HO166; clear HO172; clear HO178; clear BK179; clear HB; have HO154 := n0_; have HO160 := n1_; have HO166 := n2_; have HO172 := n3_; have HO178 := n4_; have BK179 := n5_; have HB := n6_; clear n0_ n1_ n2_ n3_ n4_ n5_ n6_; (try clear hb); (try clear hb2); (try clear hk); (try clear hi)))
      go_meet
      case rel => exact ⟨_, (true), (by first | rfl | (simp; done) | (simp [*]; done)), H', ⟨by first | omega | exact Nat.le_refl _⟩, ⟨by (with_reducible repeat (first | apply Kd.N_alloc | apply Kd.N_drewN | apply Kd.N_drew)); exact Kd.N_mono HO178.out (fun _ hk => hk.2)⟩, ⟨by (with_reducible repeat (first | refine blk_drewN ?_ _ | refine blk_drew ?_ | refine blk_alloc ?_ _)); exact BK179.out⟩, ⟨by repeat (first | (with_reducible first | exact HB.out | apply below_alloc | apply pw_below_drewN | apply below_drew1 | refine below_set ?_ GE179.out) | exact HB.out)⟩⟩
  case rest =>
    clear HC6
    try clear c1
    try clear c2
    try clear p2
    try clear c3
    try clear c10
    try clear c11
    try clear c13
    try clear c20
    try clear c20b0
    try clear c20b1
    try clear c22
    try clear c22b0
    try clear c22b1
    try clear hcz17_0
    try clear hcz17_1
    try clear hcz17_2
    try clear hcz17_3
    try clear hfz17_0
    try clear hfz17_1
    try clear hfz17_2
    try clear hfz17_3
    obtain ⟨kq, x16_5, rfl, HA, HJ5, HO_180003, BK179, HB⟩ := hcut
    cases kq with
    | zero => exact absurd HA.out (by simp [parolelaw01_examples.j0])
    | succ kj5 =>
      have H := HA.out
      clear HA
      simp only [parolelaw01_examples.j0] at H
      by_cases c30 : x16_5 = true
      · subst c30
        have H1 : (some false) = some r := by rw [if_pos rfl] at H; exact H
        clear H
        have H := H1
        clear H1
        obtain rfl := Option.some.inj H
        go_wp2
        go_ret
        exact ⟨by first | rfl | (simp [errW_none, errW_some] <;> rfl) | (simp [*, errW_none, errW_some] <;> rfl), by repeat (first | (with_reducible first | exact HB.out | apply below_alloc | apply pw_below_drewN | apply below_drew1 | refine below_set ?_ GE179.out) | exact HB.out)⟩
      · replace c30 := Bool.eq_false_iff.mpr c30
        subst c30
        have H1 : ((num_Op.f 7 (-2147483648) (-1)).bind fun t183 => (if t183 = (-2147483648) then ((num_Op.f 8 (-2147483648) (-1)).bind fun t184 => (if t184 = 0 then ((num_Depth.f kj5 t173 t174 t175 t176).bind fun t185 => (if t185 = 3 then ((num_Eval.f kj5 t173 t174 t175 t176 ([] : List Int) ([] : List Int)).bind fun t186 => (if t186 = 6 then ((num_Holds.f kj5 1 ([] : List (S29)) ([] : List (S34)) ([] : List Int) ([] : List Int)).bind fun t187 => (if t187 = true then ((num_Wrap.f 4294967301).bind fun t188 => (some (t188 == 5))) else (some false))) else (some false))) else (some false))) else (some false))) else (some false))) = some r := by rw [if_neg (show ¬ (false = true) by decide)] at H; exact H
        clear H
        have H := H1
        clear H1
        replace H := Option.bind_eq_some_iff.mp H
        obtain ⟨t183, A310, H⟩ := H
        replace H : (if t183 = (-2147483648) then ((num_Op.f 8 (-2147483648) (-1)).bind fun t184 => (if t184 = 0 then ((num_Depth.f kj5 t173 t174 t175 t176).bind fun t185 => (if t185 = 3 then ((num_Eval.f kj5 t173 t174 t175 t176 ([] : List Int) ([] : List Int)).bind fun t186 => (if t186 = 6 then ((num_Holds.f kj5 1 ([] : List (S29)) ([] : List (S34)) ([] : List Int) ([] : List Int)).bind fun t187 => (if t187 = true then ((num_Wrap.f 4294967301).bind fun t188 => (some (t188 == 5))) else (some false))) else (some false))) else (some false))) else (some false))) else (some false)) = some r := H
        have A31 := Aside0.mk A310
        clear A310
        by_cases c32 : t183 = (-2147483648)
        · rw [if_pos c32] at H
          have c32b0 : (t183 == (-2147483648)) = true := beq_iff_eq.mpr c32
          have c32b1 : (t183 != (-2147483648)) = false := bne_eq_false_iff_eq.mpr c32
          clear c32
          replace H := Option.bind_eq_some_iff.mp H
          obtain ⟨t184, A330, H⟩ := H
          replace H : (if t184 = 0 then ((num_Depth.f kj5 t173 t174 t175 t176).bind fun t185 => (if t185 = 3 then ((num_Eval.f kj5 t173 t174 t175 t176 ([] : List Int) ([] : List Int)).bind fun t186 => (if t186 = 6 then ((num_Holds.f kj5 1 ([] : List (S29)) ([] : List (S34)) ([] : List Int) ([] : List Int)).bind fun t187 => (if t187 = true then ((num_Wrap.f 4294967301).bind fun t188 => (some (t188 == 5))) else (some false))) else (some false))) else (some false))) else (some false)) = some r := H
          have A33 := Aside0.mk A330
          clear A330
          by_cases c34 : t184 = 0
          · rw [if_pos c34] at H
            have c34b0 : (t184 == 0) = true := beq_iff_eq.mpr c34
            have c34b1 : (t184 != 0) = false := bne_eq_false_iff_eq.mpr c34
            clear c34
            replace H := Option.bind_eq_some_iff.mp H
            obtain ⟨t185, A350, H⟩ := H
            replace H : (if t185 = 3 then ((num_Eval.f kj5 t173 t174 t175 t176 ([] : List Int) ([] : List Int)).bind fun t186 => (if t186 = 6 then ((num_Holds.f kj5 1 ([] : List (S29)) ([] : List (S34)) ([] : List Int) ([] : List Int)).bind fun t187 => (if t187 = true then ((num_Wrap.f 4294967301).bind fun t188 => (some (t188 == 5))) else (some false))) else (some false))) else (some false)) = some r := H
            have A35 := Aside0.mk A350
            clear A350
            by_cases c36 : t185 = 3
            · rw [if_pos c36] at H
              have c36b0 : (t185 == 3) = true := beq_iff_eq.mpr c36
              have c36b1 : (t185 != 3) = false := bne_eq_false_iff_eq.mpr c36
              clear c36
              replace H := Option.bind_eq_some_iff.mp H
              obtain ⟨t186, A370, H⟩ := H
              replace H : (if t186 = 6 then ((num_Holds.f kj5 1 ([] : List (S29)) ([] : List (S34)) ([] : List Int) ([] : List Int)).bind fun t187 => (if t187 = true then ((num_Wrap.f 4294967301).bind fun t188 => (some (t188 == 5))) else (some false))) else (some false)) = some r := H
              have A37 := Aside0.mk A370
              clear A370
              by_cases c38 : t186 = 6
              · rw [if_pos c38] at H
                have c38b0 : (t186 == 6) = true := beq_iff_eq.mpr c38
                have c38b1 : (t186 != 6) = false := bne_eq_false_iff_eq.mpr c38
                clear c38
                replace H := Option.bind_eq_some_iff.mp H
                obtain ⟨t187, A390, H⟩ := H
                replace H : (if t187 = true then ((num_Wrap.f 4294967301).bind fun t188 => (some (t188 == 5))) else (some false)) = some r := H
                have A39 := Aside0.mk A390
                clear A390
                by_cases c40 : t187 = true
                · subst c40
                  have H1 : ((num_Wrap.f 4294967301).bind fun t188 => (some (t188 == 5))) = some r := by rw [if_pos rfl] at H; exact H
                  clear H
                  have H := H1
                  clear H1
                  replace H := Option.bind_eq_some_iff.mp H
                  obtain ⟨t188, A410, H⟩ := H
                  replace H : (some (t188 == 5)) = some r := H
                  have A41 := Aside0.mk A410
                  clear A410
                  obtain rfl := Option.some.inj H
                  go_wp2_with (first | ((with_reducible refine gate_callee (f := 11) rfl ?_); refine goesL_ (some 17) rfl rfl Try.func11 (by kernel_rfl) rfl #[.int .i64 7, .int .i64 (-2147483648), .int .i64 (-1)] rfl (by (try simp only [List.map_toArray, List.map_cons, List.map_nil]); first | done | rfl | (simp only [List.length_drop, List.length_take]; rfl)) ?_; (with_reducible refine (num_Op.calls 7 (-2147483648) (-1) t183 _ A31.out).mono ?_); rintro e w42 ⟨rfl, hb⟩; refine ⟨_, rfl, ?_⟩; have n0_ := Aside0.mk (Kd.N_below (by (with_reducible repeat (first | apply Kd.N_alloc | apply Kd.N_drewN | apply Kd.N_drew)); exact HO_180003.out) hb); have n1_ := Aside0.mk (blk_below (g := gb179) (o := .cells #[.int .i64 t173, .int .i64 t174, .int .i64 t175, .slice Ao18 t176.length co18] 29 (0, 0)) (by (with_reducible repeat (first | refine blk_drewN ?_ _ | refine blk_drew ?_ | refine blk_alloc ?_ _)); exact BK179.out) hb); have n2_ := Aside0.mk (below_step (by repeat (first | (with_reducible first | exact HB.out | apply below_alloc | apply pw_below_drewN | apply below_drew1 | refine below_set ?_ GE179.out) | exact HB.out)) hb); clear HO_180003; clear BK179; clear HB; have HO_180003 := n0_; have BK179 := n1_; have HB := n2_; clear n0_ n1_ n2_; (try clear hb); (try clear hb2); (try clear hk); (try clear hi)) | (go_at_call 11; (with_reducible refine (num_Op.calls 8 (-2147483648) (-1) t184 _ A33.out).mono ?_); rintro e w43 ⟨rfl, hb⟩; have n0_ := Aside0.mk (Kd.N_below (by (with_reducible repeat (first | apply Kd.N_alloc | apply Kd.N_drewN | apply Kd.N_drew)); exact HO_180003.out) hb); have n1_ := Aside0.mk (blk_below (g := gb179) (o := .cells #[.int .i64 t173, .int .i64 t174, .int .i64 t175, .slice Ao18 t176.length co18] 29 (0, 0)) (by (with_reducible repeat (first | refine blk_drewN ?_ _ | refine blk_drew ?_ | refine blk_alloc ?_ _)); exact BK179.out) hb); have n2_ := Aside0.mk (below_step (by repeat (first | (with_reducible first | exact HB.out | apply below_alloc | apply pw_below_drewN | apply below_drew1 | refine below_set ?_ GE179.out) | exact HB.out)) hb); clear HO_180003; clear BK179; clear HB; have HO_180003 := n0_; have BK179 := n1_; have HB := n2_; clear n0_ n1_ n2_; (try clear hb); (try clear hb2); (try clear hk); (try clear hi); have hcz44_0 : w43.cell? ⟨gb179, 0, none⟩ = some (.int .i64 t173) := (blk_cell BK179.out 0).trans rfl; have hcz44_1 : w43.cell? ⟨gb179, 1, none⟩ = some (.int .i64 t174) := (blk_cell BK179.out 1).trans rfl; have hcz44_2 : w43.cell? ⟨gb179, 2, none⟩ = some (.int .i64 t175) := (blk_cell BK179.out 2).trans rfl; have hcz44_3 : w43.cell? ⟨gb179, 3, none⟩ = some (.slice Ao18 t176.length co18) := (blk_cell BK179.out 3).trans rfl; have hfz44_0 := blk_frozen BK179.out 0; have hfz44_1 := blk_frozen BK179.out 1; have hfz44_2 := blk_frozen BK179.out 2; have hfz44_3 := blk_frozen BK179.out 3) | (go_at_call 30; (with_reducible refine (num_Depth.calls kj5 t173 t174 t175 _ _ t176 t185 _ ?side1 ?side2 A35.out).mono ?_); (case side1 => repeat (first | exact (Kd.N_reads' HO_180003.out).2.2 | (with_reducible refine Kd.C_alloc ?_ _) | (with_reducible refine Kd.C_drewN ?_ _) | (with_reducible refine Kd.C_drew ?_))); (case side2 => exact (Kd.N_reads' HO_180003.out).2.1); rintro e w45 ⟨rfl, hb⟩; have n0_ := Aside0.mk (Kd.N_below (by (with_reducible repeat (first | apply Kd.N_alloc | apply Kd.N_drewN | apply Kd.N_drew)); exact HO_180003.out) hb); have n1_ := Aside0.mk (blk_below (g := gb179) (o := .cells #[.int .i64 t173, .int .i64 t174, .int .i64 t175, .slice Ao18 t176.length co18] 29 (0, 0)) (by (with_reducible repeat (first | refine blk_drewN ?_ _ | refine blk_drew ?_ | refine blk_alloc ?_ _)); exact BK179.out) hb); have n2_ := Aside0.mk (below_step (by repeat (first | (with_reducible first | exact HB.out | apply below_alloc | apply pw_below_drewN | apply below_drew1 | refine below_set ?_ GE179.out) | exact HB.out)) hb); clear HO_180003; clear BK179; clear HB; have HO_180003 := n0_; have BK179 := n1_; have HB := n2_; clear n0_ n1_ n2_; (try clear hb); (try clear hb2); (try clear hk); (try clear hi); have hcz46_0 : w45.cell? ⟨gb179, 0, none⟩ = some (.int .i64 t173) := (blk_cell BK179.out 0).trans rfl; have hcz46_1 : w45.cell? ⟨gb179, 1, none⟩ = some (.int .i64 t174) := (blk_cell BK179.out 1).trans rfl; have hcz46_2 : w45.cell? ⟨gb179, 2, none⟩ = some (.int .i64 t175) := (blk_cell BK179.out 2).trans rfl; have hcz46_3 : w45.cell? ⟨gb179, 3, none⟩ = some (.slice Ao18 t176.length co18) := (blk_cell BK179.out 3).trans rfl; have hfz46_0 := blk_frozen BK179.out 0; have hfz46_1 := blk_frozen BK179.out 1; have hfz46_2 := blk_frozen BK179.out 2; have hfz46_3 := blk_frozen BK179.out 3) | (go_at_call 16; (refine (num_Eval.calls kj5 t173 t174 t175 _ _ t176 _ _ ([] : List Int) _ _ ([] : List Int) t186 _ ?side1 ?side2 ?side3 ?side4 ?side5 ?side6 A37.out).mono ?_); (case side1 => repeat (first | exact (Kd.N_reads' HO_180003.out).2.2 | (with_reducible refine Kd.C_alloc ?_ _) | (with_reducible refine Kd.C_drewN ?_ _) | (with_reducible refine Kd.C_drew ?_))); (case side2 => exact (Kd.N_reads' HO_180003.out).2.1); (case side3 => exact Kd.C_nil _ _); (case side4 => exact Nat.le_refl _); (case side5 => exact Kd.C_nil _ _); (case side6 => exact Nat.le_refl _); rintro e w47 ⟨rfl, hb⟩; have n0_ := Aside0.mk (Kd.N_below (by (with_reducible repeat (first | apply Kd.N_alloc | apply Kd.N_drewN | apply Kd.N_drew)); exact HO_180003.out) hb); have n1_ := Aside0.mk (blk_below (g := gb179) (o := .cells #[.int .i64 t173, .int .i64 t174, .int .i64 t175, .slice Ao18 t176.length co18] 29 (0, 0)) (by (with_reducible repeat (first | refine blk_drewN ?_ _ | refine blk_drew ?_ | refine blk_alloc ?_ _)); exact BK179.out) hb); have n2_ := Aside0.mk (below_step (by repeat (first | (with_reducible first | exact HB.out | apply below_alloc | apply pw_below_drewN | apply below_drew1 | refine below_set ?_ GE179.out) | exact HB.out)) hb); clear HO_180003; clear BK179; clear HB; have HO_180003 := n0_; have BK179 := n1_; have HB := n2_; clear n0_ n1_ n2_; (try clear hb); (try clear hb2); (try clear hk); (try clear hi)) | (go_at_call 14; (refine (num_Holds.calls kj5 1 _ _ ([] : List (S29)) _ _ ([] : List (S34)) _ _ ([] : List Int) _ _ ([] : List Int) true _ ?side1 ?side2 ?side3 ?side4 ?side5 ?side6 ?side7 ?side8 A39.out).mono ?_); (case side1 => exact Kd.C_nil _ _); (case side2 => exact Nat.le_refl _); (case side3 => exact Kd.C_nil _ _); (case side4 => exact Nat.le_refl _); (case side5 => exact Kd.C_nil _ _); (case side6 => exact Nat.le_refl _); (case side7 => exact Kd.C_nil _ _); (case side8 => exact Nat.le_refl _); rintro e w48 ⟨rfl, hb⟩; have n0_ := Aside0.mk (Kd.N_below (by (with_reducible repeat (first | apply Kd.N_alloc | apply Kd.N_drewN | apply Kd.N_drew)); exact HO_180003.out) hb); have n1_ := Aside0.mk (blk_below (g := gb179) (o := .cells #[.int .i64 t173, .int .i64 t174, .int .i64 t175, .slice Ao18 t176.length co18] 29 (0, 0)) (by (with_reducible repeat (first | refine blk_drewN ?_ _ | refine blk_drew ?_ | refine blk_alloc ?_ _)); exact BK179.out) hb); have n2_ := Aside0.mk (below_step (by repeat (first | (with_reducible first | exact HB.out | apply below_alloc | apply pw_below_drewN | apply below_drew1 | refine below_set ?_ GE179.out) | exact HB.out)) hb); clear HO_180003; clear BK179; clear HB; have HO_180003 := n0_; have BK179 := n1_; have HB := n2_; clear n0_ n1_ n2_; (try clear hb); (try clear hb2); (try clear hk); (try clear hi)) | (go_at_call 26; (with_reducible refine (num_Wrap.calls 4294967301 t188 _ A41.out).mono ?_); rintro e w' ⟨rfl, ⟨nd, rfl⟩⟩))
                  go_ret
                  exact ⟨by first | rfl | (simp [errW_none, errW_some] <;> rfl) | (simp [*, errW_none, errW_some] <;> rfl), by repeat (first | (with_reducible first | exact HB.out | apply below_alloc | apply pw_below_drewN | apply below_drew1 | refine below_set ?_ GE179.out) | exact HB.out)⟩
                · replace c40 := Bool.eq_false_iff.mpr c40
                  subst c40
                  have H1 : (some false) = some r := by rw [if_neg (show ¬ (false = true) by decide)] at H; exact H
                  clear H
                  have H := H1
                  clear H1
                  obtain rfl := Option.some.inj H
                  go_wp2_with (first | ((with_reducible refine gate_callee (f := 11) rfl ?_); refine goesL_ (some 17) rfl rfl Try.func11 (by kernel_rfl) rfl #[.int .i64 7, .int .i64 (-2147483648), .int .i64 (-1)] rfl (by (try simp only [List.map_toArray, List.map_cons, List.map_nil]); first | done | rfl | (simp only [List.length_drop, List.length_take]; rfl)) ?_; (with_reducible refine (num_Op.calls 7 (-2147483648) (-1) t183 _ A31.out).mono ?_); rintro e w49 ⟨rfl, hb⟩; refine ⟨_, rfl, ?_⟩; have n0_ := Aside0.mk (Kd.N_below (by (with_reducible repeat (first | apply Kd.N_alloc | apply Kd.N_drewN | apply Kd.N_drew)); exact HO_180003.out) hb); have n1_ := Aside0.mk (blk_below (g := gb179) (o := .cells #[.int .i64 t173, .int .i64 t174, .int .i64 t175, .slice Ao18 t176.length co18] 29 (0, 0)) (by (with_reducible repeat (first | refine blk_drewN ?_ _ | refine blk_drew ?_ | refine blk_alloc ?_ _)); exact BK179.out) hb); have n2_ := Aside0.mk (below_step (by repeat (first | (with_reducible first | exact HB.out | apply below_alloc | apply pw_below_drewN | apply below_drew1 | refine below_set ?_ GE179.out) | exact HB.out)) hb); clear HO_180003; clear BK179; clear HB; have HO_180003 := n0_; have BK179 := n1_; have HB := n2_; clear n0_ n1_ n2_; (try clear hb); (try clear hb2); (try clear hk); (try clear hi)) | (go_at_call 11; (with_reducible refine (num_Op.calls 8 (-2147483648) (-1) t184 _ A33.out).mono ?_); rintro e w50 ⟨rfl, hb⟩; have n0_ := Aside0.mk (Kd.N_below (by (with_reducible repeat (first | apply Kd.N_alloc | apply Kd.N_drewN | apply Kd.N_drew)); exact HO_180003.out) hb); have n1_ := Aside0.mk (blk_below (g := gb179) (o := .cells #[.int .i64 t173, .int .i64 t174, .int .i64 t175, .slice Ao18 t176.length co18] 29 (0, 0)) (by (with_reducible repeat (first | refine blk_drewN ?_ _ | refine blk_drew ?_ | refine blk_alloc ?_ _)); exact BK179.out) hb); have n2_ := Aside0.mk (below_step (by repeat (first | (with_reducible first | exact HB.out | apply below_alloc | apply pw_below_drewN | apply below_drew1 | refine below_set ?_ GE179.out) | exact HB.out)) hb); clear HO_180003; clear BK179; clear HB; have HO_180003 := n0_; have BK179 := n1_; have HB := n2_; clear n0_ n1_ n2_; (try clear hb); (try clear hb2); (try clear hk); (try clear hi); have hcz51_0 : w50.cell? ⟨gb179, 0, none⟩ = some (.int .i64 t173) := (blk_cell BK179.out 0).trans rfl; have hcz51_1 : w50.cell? ⟨gb179, 1, none⟩ = some (.int .i64 t174) := (blk_cell BK179.out 1).trans rfl; have hcz51_2 : w50.cell? ⟨gb179, 2, none⟩ = some (.int .i64 t175) := (blk_cell BK179.out 2).trans rfl; have hcz51_3 : w50.cell? ⟨gb179, 3, none⟩ = some (.slice Ao18 t176.length co18) := (blk_cell BK179.out 3).trans rfl; have hfz51_0 := blk_frozen BK179.out 0; have hfz51_1 := blk_frozen BK179.out 1; have hfz51_2 := blk_frozen BK179.out 2; have hfz51_3 := blk_frozen BK179.out 3) | (go_at_call 30; (with_reducible refine (num_Depth.calls kj5 t173 t174 t175 _ _ t176 t185 _ ?side1 ?side2 A35.out).mono ?_); (case side1 => repeat (first | exact (Kd.N_reads' HO_180003.out).2.2 | (with_reducible refine Kd.C_alloc ?_ _) | (with_reducible refine Kd.C_drewN ?_ _) | (with_reducible refine Kd.C_drew ?_))); (case side2 => exact (Kd.N_reads' HO_180003.out).2.1); rintro e w52 ⟨rfl, hb⟩; have n0_ := Aside0.mk (Kd.N_below (by (with_reducible repeat (first | apply Kd.N_alloc | apply Kd.N_drewN | apply Kd.N_drew)); exact HO_180003.out) hb); have n1_ := Aside0.mk (blk_below (g := gb179) (o := .cells #[.int .i64 t173, .int .i64 t174, .int .i64 t175, .slice Ao18 t176.length co18] 29 (0, 0)) (by (with_reducible repeat (first | refine blk_drewN ?_ _ | refine blk_drew ?_ | refine blk_alloc ?_ _)); exact BK179.out) hb); have n2_ := Aside0.mk (below_step (by repeat (first | (with_reducible first | exact HB.out | apply below_alloc | apply pw_below_drewN | apply below_drew1 | refine below_set ?_ GE179.out) | exact HB.out)) hb); clear HO_180003; clear BK179; clear HB; have HO_180003 := n0_; have BK179 := n1_; have HB := n2_; clear n0_ n1_ n2_; (try clear hb); (try clear hb2); (try clear hk); (try clear hi); have hcz53_0 : w52.cell? ⟨gb179, 0, none⟩ = some (.int .i64 t173) := (blk_cell BK179.out 0).trans rfl; have hcz53_1 : w52.cell? ⟨gb179, 1, none⟩ = some (.int .i64 t174) := (blk_cell BK179.out 1).trans rfl; have hcz53_2 : w52.cell? ⟨gb179, 2, none⟩ = some (.int .i64 t175) := (blk_cell BK179.out 2).trans rfl; have hcz53_3 : w52.cell? ⟨gb179, 3, none⟩ = some (.slice Ao18 t176.length co18) := (blk_cell BK179.out 3).trans rfl; have hfz53_0 := blk_frozen BK179.out 0; have hfz53_1 := blk_frozen BK179.out 1; have hfz53_2 := blk_frozen BK179.out 2; have hfz53_3 := blk_frozen BK179.out 3) | (go_at_call 16; (refine (num_Eval.calls kj5 t173 t174 t175 _ _ t176 _ _ ([] : List Int) _ _ ([] : List Int) t186 _ ?side1 ?side2 ?side3 ?side4 ?side5 ?side6 A37.out).mono ?_); (case side1 => repeat (first | exact (Kd.N_reads' HO_180003.out).2.2 | (with_reducible refine Kd.C_alloc ?_ _) | (with_reducible refine Kd.C_drewN ?_ _) | (with_reducible refine Kd.C_drew ?_))); (case side2 => exact (Kd.N_reads' HO_180003.out).2.1); (case side3 => exact Kd.C_nil _ _); (case side4 => exact Nat.le_refl _); (case side5 => exact Kd.C_nil _ _); (case side6 => exact Nat.le_refl _); rintro e w54 ⟨rfl, hb⟩; have n0_ := Aside0.mk (Kd.N_below (by (with_reducible repeat (first | apply Kd.N_alloc | apply Kd.N_drewN | apply Kd.N_drew)); exact HO_180003.out) hb); have n1_ := Aside0.mk (blk_below (g := gb179) (o := .cells #[.int .i64 t173, .int .i64 t174, .int .i64 t175, .slice Ao18 t176.length co18] 29 (0, 0)) (by (with_reducible repeat (first | refine blk_drewN ?_ _ | refine blk_drew ?_ | refine blk_alloc ?_ _)); exact BK179.out) hb); have n2_ := Aside0.mk (below_step (by repeat (first | (with_reducible first | exact HB.out | apply below_alloc | apply pw_below_drewN | apply below_drew1 | refine below_set ?_ GE179.out) | exact HB.out)) hb); clear HO_180003; clear BK179; clear HB; have HO_180003 := n0_; have BK179 := n1_; have HB := n2_; clear n0_ n1_ n2_; (try clear hb); (try clear hb2); (try clear hk); (try clear hi)) | (go_at_call 14; (refine (num_Holds.calls kj5 1 _ _ ([] : List (S29)) _ _ ([] : List (S34)) _ _ ([] : List Int) _ _ ([] : List Int) false _ ?side1 ?side2 ?side3 ?side4 ?side5 ?side6 ?side7 ?side8 A39.out).mono ?_); (case side1 => exact Kd.C_nil _ _); (case side2 => exact Nat.le_refl _); (case side3 => exact Kd.C_nil _ _); (case side4 => exact Nat.le_refl _); (case side5 => exact Kd.C_nil _ _); (case side6 => exact Nat.le_refl _); (case side7 => exact Kd.C_nil _ _); (case side8 => exact Nat.le_refl _); rintro e w55 ⟨rfl, hb⟩; have n0_ := Aside0.mk (Kd.N_below (by (with_reducible repeat (first | apply Kd.N_alloc | apply Kd.N_drewN | apply Kd.N_drew)); exact HO_180003.out) hb); have n1_ := Aside0.mk (blk_below (g := gb179) (o := .cells #[.int .i64 t173, .int .i64 t174, .int .i64 t175, .slice Ao18 t176.length co18] 29 (0, 0)) (by (with_reducible repeat (first | refine blk_drewN ?_ _ | refine blk_drew ?_ | refine blk_alloc ?_ _)); exact BK179.out) hb); have n2_ := Aside0.mk (below_step (by repeat (first | (with_reducible first | exact HB.out | apply below_alloc | apply pw_below_drewN | apply below_drew1 | refine below_set ?_ GE179.out) | exact HB.out)) hb); clear HO_180003; clear BK179; clear HB; have HO_180003 := n0_; have BK179 := n1_; have HB := n2_; clear n0_ n1_ n2_; (try clear hb); (try clear hb2); (try clear hk); (try clear hi)))
                  go_ret
                  exact ⟨by first | rfl | (simp [errW_none, errW_some] <;> rfl) | (simp [*, errW_none, errW_some] <;> rfl), by repeat (first | (with_reducible first | exact HB.out | apply below_alloc | apply pw_below_drewN | apply below_drew1 | refine below_set ?_ GE179.out) | exact HB.out)⟩
              · rw [if_neg c38] at H
                have c38b0 : (t186 == 6) = false := beq_eq_false_iff_ne.mpr c38
                have c38b1 : (t186 != 6) = true := bne_iff_ne.mpr c38
                obtain rfl := Option.some.inj H
                go_wp2_with (first | ((with_reducible refine gate_callee (f := 11) rfl ?_); refine goesL_ (some 17) rfl rfl Try.func11 (by kernel_rfl) rfl #[.int .i64 7, .int .i64 (-2147483648), .int .i64 (-1)] rfl (by (try simp only [List.map_toArray, List.map_cons, List.map_nil]); first | done | rfl | (simp only [List.length_drop, List.length_take]; rfl)) ?_; (with_reducible refine (num_Op.calls 7 (-2147483648) (-1) t183 _ A31.out).mono ?_); rintro e w56 ⟨rfl, hb⟩; refine ⟨_, rfl, ?_⟩; have n0_ := Aside0.mk (Kd.N_below (by (with_reducible repeat (first | apply Kd.N_alloc | apply Kd.N_drewN | apply Kd.N_drew)); exact HO_180003.out) hb); have n1_ := Aside0.mk (blk_below (g := gb179) (o := .cells #[.int .i64 t173, .int .i64 t174, .int .i64 t175, .slice Ao18 t176.length co18] 29 (0, 0)) (by (with_reducible repeat (first | refine blk_drewN ?_ _ | refine blk_drew ?_ | refine blk_alloc ?_ _)); exact BK179.out) hb); have n2_ := Aside0.mk (below_step (by repeat (first | (with_reducible first | exact HB.out | apply below_alloc | apply pw_below_drewN | apply below_drew1 | refine below_set ?_ GE179.out) | exact HB.out)) hb); clear HO_180003; clear BK179; clear HB; have HO_180003 := n0_; have BK179 := n1_; have HB := n2_; clear n0_ n1_ n2_; (try clear hb); (try clear hb2); (try clear hk); (try clear hi)) | (go_at_call 11; (with_reducible refine (num_Op.calls 8 (-2147483648) (-1) t184 _ A33.out).mono ?_); rintro e w57 ⟨rfl, hb⟩; have n0_ := Aside0.mk (Kd.N_below (by (with_reducible repeat (first | apply Kd.N_alloc | apply Kd.N_drewN | apply Kd.N_drew)); exact HO_180003.out) hb); have n1_ := Aside0.mk (blk_below (g := gb179) (o := .cells #[.int .i64 t173, .int .i64 t174, .int .i64 t175, .slice Ao18 t176.length co18] 29 (0, 0)) (by (with_reducible repeat (first | refine blk_drewN ?_ _ | refine blk_drew ?_ | refine blk_alloc ?_ _)); exact BK179.out) hb); have n2_ := Aside0.mk (below_step (by repeat (first | (with_reducible first | exact HB.out | apply below_alloc | apply pw_below_drewN | apply below_drew1 | refine below_set ?_ GE179.out) | exact HB.out)) hb); clear HO_180003; clear BK179; clear HB; have HO_180003 := n0_; have BK179 := n1_; have HB := n2_; clear n0_ n1_ n2_; (try clear hb); (try clear hb2); (try clear hk); (try clear hi); have hcz58_0 : w57.cell? ⟨gb179, 0, none⟩ = some (.int .i64 t173) := (blk_cell BK179.out 0).trans rfl; have hcz58_1 : w57.cell? ⟨gb179, 1, none⟩ = some (.int .i64 t174) := (blk_cell BK179.out 1).trans rfl; have hcz58_2 : w57.cell? ⟨gb179, 2, none⟩ = some (.int .i64 t175) := (blk_cell BK179.out 2).trans rfl; have hcz58_3 : w57.cell? ⟨gb179, 3, none⟩ = some (.slice Ao18 t176.length co18) := (blk_cell BK179.out 3).trans rfl; have hfz58_0 := blk_frozen BK179.out 0; have hfz58_1 := blk_frozen BK179.out 1; have hfz58_2 := blk_frozen BK179.out 2; have hfz58_3 := blk_frozen BK179.out 3) | (go_at_call 30; (with_reducible refine (num_Depth.calls kj5 t173 t174 t175 _ _ t176 t185 _ ?side1 ?side2 A35.out).mono ?_); (case side1 => repeat (first | exact (Kd.N_reads' HO_180003.out).2.2 | (with_reducible refine Kd.C_alloc ?_ _) | (with_reducible refine Kd.C_drewN ?_ _) | (with_reducible refine Kd.C_drew ?_))); (case side2 => exact (Kd.N_reads' HO_180003.out).2.1); rintro e w59 ⟨rfl, hb⟩; have n0_ := Aside0.mk (Kd.N_below (by (with_reducible repeat (first | apply Kd.N_alloc | apply Kd.N_drewN | apply Kd.N_drew)); exact HO_180003.out) hb); have n1_ := Aside0.mk (blk_below (g := gb179) (o := .cells #[.int .i64 t173, .int .i64 t174, .int .i64 t175, .slice Ao18 t176.length co18] 29 (0, 0)) (by (with_reducible repeat (first | refine blk_drewN ?_ _ | refine blk_drew ?_ | refine blk_alloc ?_ _)); exact BK179.out) hb); have n2_ := Aside0.mk (below_step (by repeat (first | (with_reducible first | exact HB.out | apply below_alloc | apply pw_below_drewN | apply below_drew1 | refine below_set ?_ GE179.out) | exact HB.out)) hb); clear HO_180003; clear BK179; clear HB; have HO_180003 := n0_; have BK179 := n1_; have HB := n2_; clear n0_ n1_ n2_; (try clear hb); (try clear hb2); (try clear hk); (try clear hi); have hcz60_0 : w59.cell? ⟨gb179, 0, none⟩ = some (.int .i64 t173) := (blk_cell BK179.out 0).trans rfl; have hcz60_1 : w59.cell? ⟨gb179, 1, none⟩ = some (.int .i64 t174) := (blk_cell BK179.out 1).trans rfl; have hcz60_2 : w59.cell? ⟨gb179, 2, none⟩ = some (.int .i64 t175) := (blk_cell BK179.out 2).trans rfl; have hcz60_3 : w59.cell? ⟨gb179, 3, none⟩ = some (.slice Ao18 t176.length co18) := (blk_cell BK179.out 3).trans rfl; have hfz60_0 := blk_frozen BK179.out 0; have hfz60_1 := blk_frozen BK179.out 1; have hfz60_2 := blk_frozen BK179.out 2; have hfz60_3 := blk_frozen BK179.out 3) | (go_at_call 16; (refine (num_Eval.calls kj5 t173 t174 t175 _ _ t176 _ _ ([] : List Int) _ _ ([] : List Int) t186 _ ?side1 ?side2 ?side3 ?side4 ?side5 ?side6 A37.out).mono ?_); (case side1 => repeat (first | exact (Kd.N_reads' HO_180003.out).2.2 | (with_reducible refine Kd.C_alloc ?_ _) | (with_reducible refine Kd.C_drewN ?_ _) | (with_reducible refine Kd.C_drew ?_))); (case side2 => exact (Kd.N_reads' HO_180003.out).2.1); (case side3 => exact Kd.C_nil _ _); (case side4 => exact Nat.le_refl _); (case side5 => exact Kd.C_nil _ _); (case side6 => exact Nat.le_refl _); rintro e w61 ⟨rfl, hb⟩; have n0_ := Aside0.mk (Kd.N_below (by (with_reducible repeat (first | apply Kd.N_alloc | apply Kd.N_drewN | apply Kd.N_drew)); exact HO_180003.out) hb); have n1_ := Aside0.mk (blk_below (g := gb179) (o := .cells #[.int .i64 t173, .int .i64 t174, .int .i64 t175, .slice Ao18 t176.length co18] 29 (0, 0)) (by (with_reducible repeat (first | refine blk_drewN ?_ _ | refine blk_drew ?_ | refine blk_alloc ?_ _)); exact BK179.out) hb); have n2_ := Aside0.mk (below_step (by repeat (first | (with_reducible first | exact HB.out | apply below_alloc | apply pw_below_drewN | apply below_drew1 | refine below_set ?_ GE179.out) | exact HB.out)) hb); clear HO_180003; clear BK179; clear HB; have HO_180003 := n0_; have BK179 := n1_; have HB := n2_; clear n0_ n1_ n2_; (try clear hb); (try clear hb2); (try clear hk); (try clear hi)))
                go_ret
                exact ⟨by first | rfl | (simp [errW_none, errW_some] <;> rfl) | (simp [*, errW_none, errW_some] <;> rfl), by repeat (first | (with_reducible first | exact HB.out | apply below_alloc | apply pw_below_drewN | apply below_drew1 | refine below_set ?_ GE179.out) | exact HB.out)⟩
            · rw [if_neg c36] at H
              have c36b0 : (t185 == 3) = false := beq_eq_false_iff_ne.mpr c36
              have c36b1 : (t185 != 3) = true := bne_iff_ne.mpr c36
              obtain rfl := Option.some.inj H
              go_wp2_with (first | ((with_reducible refine gate_callee (f := 11) rfl ?_); refine goesL_ (some 17) rfl rfl Try.func11 (by kernel_rfl) rfl #[.int .i64 7, .int .i64 (-2147483648), .int .i64 (-1)] rfl (by (try simp only [List.map_toArray, List.map_cons, List.map_nil]); first | done | rfl | (simp only [List.length_drop, List.length_take]; rfl)) ?_; (with_reducible refine (num_Op.calls 7 (-2147483648) (-1) t183 _ A31.out).mono ?_); rintro e w62 ⟨rfl, hb⟩; refine ⟨_, rfl, ?_⟩; have n0_ := Aside0.mk (Kd.N_below (by (with_reducible repeat (first | apply Kd.N_alloc | apply Kd.N_drewN | apply Kd.N_drew)); exact HO_180003.out) hb); have n1_ := Aside0.mk (blk_below (g := gb179) (o := .cells #[.int .i64 t173, .int .i64 t174, .int .i64 t175, .slice Ao18 t176.length co18] 29 (0, 0)) (by (with_reducible repeat (first | refine blk_drewN ?_ _ | refine blk_drew ?_ | refine blk_alloc ?_ _)); exact BK179.out) hb); have n2_ := Aside0.mk (below_step (by repeat (first | (with_reducible first | exact HB.out | apply below_alloc | apply pw_below_drewN | apply below_drew1 | refine below_set ?_ GE179.out) | exact HB.out)) hb); clear HO_180003; clear BK179; clear HB; have HO_180003 := n0_; have BK179 := n1_; have HB := n2_; clear n0_ n1_ n2_; (try clear hb); (try clear hb2); (try clear hk); (try clear hi)) | (go_at_call 11; (with_reducible refine (num_Op.calls 8 (-2147483648) (-1) t184 _ A33.out).mono ?_); rintro e w63 ⟨rfl, hb⟩; have n0_ := Aside0.mk (Kd.N_below (by (with_reducible repeat (first | apply Kd.N_alloc | apply Kd.N_drewN | apply Kd.N_drew)); exact HO_180003.out) hb); have n1_ := Aside0.mk (blk_below (g := gb179) (o := .cells #[.int .i64 t173, .int .i64 t174, .int .i64 t175, .slice Ao18 t176.length co18] 29 (0, 0)) (by (with_reducible repeat (first | refine blk_drewN ?_ _ | refine blk_drew ?_ | refine blk_alloc ?_ _)); exact BK179.out) hb); have n2_ := Aside0.mk (below_step (by repeat (first | (with_reducible first | exact HB.out | apply below_alloc | apply pw_below_drewN | apply below_drew1 | refine below_set ?_ GE179.out) | exact HB.out)) hb); clear HO_180003; clear BK179; clear HB; have HO_180003 := n0_; have BK179 := n1_; have HB := n2_; clear n0_ n1_ n2_; (try clear hb); (try clear hb2); (try clear hk); (try clear hi); have hcz64_0 : w63.cell? ⟨gb179, 0, none⟩ = some (.int .i64 t173) := (blk_cell BK179.out 0).trans rfl; have hcz64_1 : w63.cell? ⟨gb179, 1, none⟩ = some (.int .i64 t174) := (blk_cell BK179.out 1).trans rfl; have hcz64_2 : w63.cell? ⟨gb179, 2, none⟩ = some (.int .i64 t175) := (blk_cell BK179.out 2).trans rfl; have hcz64_3 : w63.cell? ⟨gb179, 3, none⟩ = some (.slice Ao18 t176.length co18) := (blk_cell BK179.out 3).trans rfl; have hfz64_0 := blk_frozen BK179.out 0; have hfz64_1 := blk_frozen BK179.out 1; have hfz64_2 := blk_frozen BK179.out 2; have hfz64_3 := blk_frozen BK179.out 3) | (go_at_call 30; (with_reducible refine (num_Depth.calls kj5 t173 t174 t175 _ _ t176 t185 _ ?side1 ?side2 A35.out).mono ?_); (case side1 => repeat (first | exact (Kd.N_reads' HO_180003.out).2.2 | (with_reducible refine Kd.C_alloc ?_ _) | (with_reducible refine Kd.C_drewN ?_ _) | (with_reducible refine Kd.C_drew ?_))); (case side2 => exact (Kd.N_reads' HO_180003.out).2.1); rintro e w65 ⟨rfl, hb⟩; have n0_ := Aside0.mk (Kd.N_below (by (with_reducible repeat (first | apply Kd.N_alloc | apply Kd.N_drewN | apply Kd.N_drew)); exact HO_180003.out) hb); have n1_ := Aside0.mk (blk_below (g := gb179) (o := .cells #[.int .i64 t173, .int .i64 t174, .int .i64 t175, .slice Ao18 t176.length co18] 29 (0, 0)) (by (with_reducible repeat (first | refine blk_drewN ?_ _ | refine blk_drew ?_ | refine blk_alloc ?_ _)); exact BK179.out) hb); have n2_ := Aside0.mk (below_step (by repeat (first | (with_reducible first | exact HB.out | apply below_alloc | apply pw_below_drewN | apply below_drew1 | refine below_set ?_ GE179.out) | exact HB.out)) hb); clear HO_180003; clear BK179; clear HB; have HO_180003 := n0_; have BK179 := n1_; have HB := n2_; clear n0_ n1_ n2_; (try clear hb); (try clear hb2); (try clear hk); (try clear hi)))
              go_ret
              exact ⟨by first | rfl | (simp [errW_none, errW_some] <;> rfl) | (simp [*, errW_none, errW_some] <;> rfl), by repeat (first | (with_reducible first | exact HB.out | apply below_alloc | apply pw_below_drewN | apply below_drew1 | refine below_set ?_ GE179.out) | exact HB.out)⟩
          · rw [if_neg c34] at H
            have c34b0 : (t184 == 0) = false := beq_eq_false_iff_ne.mpr c34
            have c34b1 : (t184 != 0) = true := bne_iff_ne.mpr c34
            obtain rfl := Option.some.inj H
            go_wp2_with (first | ((with_reducible refine gate_callee (f := 11) rfl ?_); refine goesL_ (some 17) rfl rfl Try.func11 (by kernel_rfl) rfl #[.int .i64 7, .int .i64 (-2147483648), .int .i64 (-1)] rfl (by (try simp only [List.map_toArray, List.map_cons, List.map_nil]); first | done | rfl | (simp only [List.length_drop, List.length_take]; rfl)) ?_; (with_reducible refine (num_Op.calls 7 (-2147483648) (-1) t183 _ A31.out).mono ?_); rintro e w66 ⟨rfl, hb⟩; refine ⟨_, rfl, ?_⟩; have n0_ := Aside0.mk (Kd.N_below (by (with_reducible repeat (first | apply Kd.N_alloc | apply Kd.N_drewN | apply Kd.N_drew)); exact HO_180003.out) hb); have n1_ := Aside0.mk (blk_below (g := gb179) (o := .cells #[.int .i64 t173, .int .i64 t174, .int .i64 t175, .slice Ao18 t176.length co18] 29 (0, 0)) (by (with_reducible repeat (first | refine blk_drewN ?_ _ | refine blk_drew ?_ | refine blk_alloc ?_ _)); exact BK179.out) hb); have n2_ := Aside0.mk (below_step (by repeat (first | (with_reducible first | exact HB.out | apply below_alloc | apply pw_below_drewN | apply below_drew1 | refine below_set ?_ GE179.out) | exact HB.out)) hb); clear HO_180003; clear BK179; clear HB; have HO_180003 := n0_; have BK179 := n1_; have HB := n2_; clear n0_ n1_ n2_; (try clear hb); (try clear hb2); (try clear hk); (try clear hi)) | (go_at_call 11; (with_reducible refine (num_Op.calls 8 (-2147483648) (-1) t184 _ A33.out).mono ?_); rintro e w67 ⟨rfl, hb⟩; have n0_ := Aside0.mk (Kd.N_below (by (with_reducible repeat (first | apply Kd.N_alloc | apply Kd.N_drewN | apply Kd.N_drew)); exact HO_180003.out) hb); have n1_ := Aside0.mk (blk_below (g := gb179) (o := .cells #[.int .i64 t173, .int .i64 t174, .int .i64 t175, .slice Ao18 t176.length co18] 29 (0, 0)) (by (with_reducible repeat (first | refine blk_drewN ?_ _ | refine blk_drew ?_ | refine blk_alloc ?_ _)); exact BK179.out) hb); have n2_ := Aside0.mk (below_step (by repeat (first | (with_reducible first | exact HB.out | apply below_alloc | apply pw_below_drewN | apply below_drew1 | refine below_set ?_ GE179.out) | exact HB.out)) hb); clear HO_180003; clear BK179; clear HB; have HO_180003 := n0_; have BK179 := n1_; have HB := n2_; clear n0_ n1_ n2_; (try clear hb); (try clear hb2); (try clear hk); (try clear hi)))
            go_ret
            exact ⟨by first | rfl | (simp [errW_none, errW_some] <;> rfl) | (simp [*, errW_none, errW_some] <;> rfl), by repeat (first | (with_reducible first | exact HB.out | apply below_alloc | apply pw_below_drewN | apply below_drew1 | refine below_set ?_ GE179.out) | exact HB.out)⟩
        · rw [if_neg c32] at H
          have c32b0 : (t183 == (-2147483648)) = false := beq_eq_false_iff_ne.mpr c32
          have c32b1 : (t183 != (-2147483648)) = true := bne_iff_ne.mpr c32
          obtain rfl := Option.some.inj H
          go_wp2_with (first | ((with_reducible refine gate_callee (f := 11) rfl ?_); refine goesL_ (some 17) rfl rfl Try.func11 (by kernel_rfl) rfl #[.int .i64 7, .int .i64 (-2147483648), .int .i64 (-1)] rfl (by (try simp only [List.map_toArray, List.map_cons, List.map_nil]); first | done | rfl | (simp only [List.length_drop, List.length_take]; rfl)) ?_; (with_reducible refine (num_Op.calls 7 (-2147483648) (-1) t183 _ A31.out).mono ?_); rintro e w68 ⟨rfl, hb⟩; refine ⟨_, rfl, ?_⟩; have n0_ := Aside0.mk (Kd.N_below (by (with_reducible repeat (first | apply Kd.N_alloc | apply Kd.N_drewN | apply Kd.N_drew)); exact HO_180003.out) hb); have n1_ := Aside0.mk (blk_below (g := gb179) (o := .cells #[.int .i64 t173, .int .i64 t174, .int .i64 t175, .slice Ao18 t176.length co18] 29 (0, 0)) (by (with_reducible repeat (first | refine blk_drewN ?_ _ | refine blk_drew ?_ | refine blk_alloc ?_ _)); exact BK179.out) hb); have n2_ := Aside0.mk (below_step (by repeat (first | (with_reducible first | exact HB.out | apply below_alloc | apply pw_below_drewN | apply below_drew1 | refine below_set ?_ GE179.out) | exact HB.out)) hb); clear HO_180003; clear BK179; clear HB; have HO_180003 := n0_; have BK179 := n1_; have HB := n2_; clear n0_ n1_ n2_; (try clear hb); (try clear hb2); (try clear hk); (try clear hi)))
          go_ret
          exact ⟨by first | rfl | (simp [errW_none, errW_some] <;> rfl) | (simp [*, errW_none, errW_some] <;> rfl), by repeat (first | (with_reducible first | exact HB.out | apply below_alloc | apply pw_below_drewN | apply below_drew1 | refine below_set ?_ GE179.out) | exact HB.out)⟩

end Go.Proofs.Ytbbnefpjnjjibaa.XS
