/- Several texts in one: SpanR0, SpanR1, SpanR2, SpanH0, SpanH1, SpanH2, RefinesL. -/
import Derived.Test.YtamfgbenceoleaaBunSb
/-! Refining: what is left of two sets after a comparison. -/
namespace Go.Proofs.Ytamfgbenceoleaa.Span
set_option linter.unusedVariables false
set_option linter.unusedSimpArgs false
set_option linter.unusedSectionVars false
set_option linter.unnecessarySimpa false
open Go.Proofs.Ytamfgbenceoleaa.Ev Go.RowKit
def clipLo (a : Abs) (lo : Int) : Int := max a.lo lo + (a.lo - max a.lo lo) % a.m
def clipB (a : Abs) (lo hi : Int) : Bool := decide (clipLo a lo ≤ min a.hi hi)
def clipF (a : Abs) (lo hi : Int) : Abs := if clipB a lo hi = true then byF (clipLo a lo) (min a.hi hi) a.m a.mask else zeroA
theorem clip_spec {a : Abs} (ha : VA a) {lo hi : Int} (h : clipB a lo hi = true) : VA (clipF a lo hi) ∧ (clipF a lo hi).mask = a.mask ∧ ∀ v, withinF (clipF a lo hi) v = true ↔ withinF a v = true ∧ lo ≤ v ∧ v ≤ hi := by
  unfold clipF
  rw [if_pos h]
  have h := of_decide_eq_true h
  have hm := ha.2.2.2.2.2.1
  have p1 := ha.1; have p2 := ha.2.2.1
  unfold clipLo at *
  have r0 := Int.emod_nonneg (a.lo - max a.lo lo) (show a.m ≠ 0 by omega)
  have r1 := Int.emod_lt_of_pos (a.lo - max a.lo lo) (show 0 < a.m by omega)
  have hd : a.m ∣ max a.lo lo + (a.lo - max a.lo lo) % a.m - a.lo := ⟨-((a.lo - max a.lo lo) / a.m), by have := Int.mul_ediv_add_emod (a.lo - max a.lo lo) a.m; rw [Int.mul_neg]; omega⟩
  generalize (a.lo - max a.lo lo) % a.m = r at *
  refine ⟨by_VA (by omega) (by omega) (fun h => by omega) (by omega) (by omega) ⟨ha.2.2.2.1, ha.2.2.2.2.1⟩, by_mask _ _ _ _, fun v => ?_⟩
  rw [by_in (by omega) (by omega) (fun h => by omega), withinF_iff]
  constructor
  · rintro ⟨h1, h2, h3⟩
    exact ⟨⟨by omega, by omega, dvd_add3 h3 hd⟩, by omega, by omega⟩
  · rintro ⟨⟨h1, h2, h3⟩, h4, h5⟩
    have h6 := dvd_add3 h3 (dvd_flip hd)
    refine ⟨?_, by omega, h6⟩
    rcases Int.lt_or_le v (max a.lo lo + r) with c | c
    · have := Int.le_of_dvd (by omega) (dvd_flip h6)
      omega
    · exact c
theorem clip_some {a : Abs} (ha : VA a) {lo hi v : Int} (hv : withinF a v = true) (h1 : lo ≤ v) (h2 : v ≤ hi) : clipB a lo hi = true := by
  obtain ⟨k1, k2, k3⟩ := withinF_iff.1 hv
  have hm := ha.2.2.2.2.2.1
  unfold clipB clipLo
  have r0 := Int.emod_nonneg (a.lo - max a.lo lo) (show a.m ≠ 0 by omega)
  have r1 := Int.emod_lt_of_pos (a.lo - max a.lo lo) (show 0 < a.m by omega)
  have hd : a.m ∣ max a.lo lo + (a.lo - max a.lo lo) % a.m - a.lo := ⟨-((a.lo - max a.lo lo) / a.m), by have := Int.mul_ediv_add_emod (a.lo - max a.lo lo) a.m; rw [Int.mul_neg]; omega⟩
  generalize (a.lo - max a.lo lo) % a.m = r at *
  have h6 := dvd_add3 k3 (dvd_flip hd)
  refine decide_eq_true ?_
  rcases Int.lt_or_le v (max a.lo lo + r) with c | c
  · have := Int.le_of_dvd (by omega) (dvd_flip h6)
    omega
  · omega
theorem clip_leq {a : Abs} (ha : VA a) {lo hi : Int} (h : clipB a lo hi = true) : leqF (clipF a lo hi) a = true := by
  obtain ⟨h1, h2, h3⟩ := clip_spec ha h
  exact (leq_sem h1 ha).2 ⟨fun v hv => ((h3 v).1 hv).1, by rw [h2]; exact subB_refl _⟩
/-- A pair of sets, if there is one. -/
structure Two where
  x : Abs
  y : Abs
  is : Bool
def noTwo : Two := ⟨zeroA, zeroA, false⟩
/-- What is right of a pair that is left. -/
structure Left (a b : Abs) (t : Two) : Prop where
  is : t.is = true
  vx : VA t.x
  vy : VA t.y
  mx : t.x.mask = a.mask
  my : t.y.mask = b.mask
  lx : leqF t.x a = true
  ly : leqF t.y b = true
def lessT (a b : Abs) (d : Int) : Two :=
  if (clipB a (-2147483648) (b.hi - d) && clipB b (a.lo + d) 2147483647) = true then ⟨clipF a (-2147483648) (b.hi - d), clipF b (a.lo + d) 2147483647, true⟩ else noTwo
theorem less_left {a b : Abs} (ha : VA a) (hb : VA b) {d : Int} (h : (lessT a b d).is = true) : Left a b (lessT a b d) := by
  unfold lessT at h ⊢
  split at h
  · rename_i c
    rw [if_pos c]
    simp only [Bool.and_eq_true] at c
    obtain ⟨k1, k2, k3⟩ := clip_spec ha c.1
    obtain ⟨j1, j2, j3⟩ := clip_spec hb c.2
    exact ⟨rfl, k1, j1, k2, j2, clip_leq ha c.1, clip_leq hb c.2⟩
  · cases h
theorem less_keeps {a b : Abs} (ha : VA a) (hb : VA b) {d v w : Int} (hv : withinF a v = true) (hw : withinF b w = true) (h : v + d ≤ w) :
    (lessT a b d).is = true ∧ withinF (lessT a b d).x v = true ∧ withinF (lessT a b d).y w = true := by
  have rv := range_in ha hv
  have rw' := range_in hb hw
  obtain ⟨p1, p2, p3⟩ := withinF_iff.1 hv
  obtain ⟨q1, q2, q3⟩ := withinF_iff.1 hw
  have c1 := clip_some ha (lo := -2147483648) (hi := b.hi - d) hv (by omega) (by omega)
  have c2 := clip_some hb (lo := a.lo + d) (hi := 2147483647) hw (by omega) (by omega)
  unfold lessT
  rw [if_pos (by rw [c1, c2]; rfl)]
  exact ⟨rfl, ((clip_spec ha c1).2.2 v).2 ⟨hv, by omega, by omega⟩, ((clip_spec hb c2).2.2 w).2 ⟨hw, by omega, by omega⟩⟩
def withA (a b : Abs) : Abs := if stepF b ≠ 0 then a else if a.lo = b.lo then clipF a (a.lo + 1) 2147483647 else if a.hi = b.lo then clipF a (-2147483648) (a.hi - 1) else a
def withB (a b : Abs) : Bool := if stepF b ≠ 0 then true else if a.lo = b.lo then clipB a (a.lo + 1) 2147483647 else if a.hi = b.lo then clipB a (-2147483648) (a.hi - 1) else true
theorem with_left {a b : Abs} (ha : VA a) (h : withB a b = true) : VA (withA a b) ∧ (withA a b).mask = a.mask ∧ leqF (withA a b) a = true := by
  unfold withB at h
  unfold withA
  split
  · exact ⟨ha, rfl, leq_refl ha⟩
  · rename_i c1
    rw [if_neg c1] at h
    split
    · rename_i c2
      rw [if_pos c2] at h
      obtain ⟨k1, k2, k3⟩ := clip_spec ha h
      exact ⟨k1, k2, clip_leq ha h⟩
    · rename_i c2
      rw [if_neg c2] at h
      split
      · rename_i c3
        rw [if_pos c3] at h
        obtain ⟨k1, k2, k3⟩ := clip_spec ha h
        exact ⟨k1, k2, clip_leq ha h⟩
      · exact ⟨ha, rfl, leq_refl ha⟩
theorem with_keeps {a b : Abs} (ha : VA a) (hb : VA b) {v w : Int} (hv : withinF a v = true) (hw : withinF b w = true) (h : v ≠ w) : withB a b = true ∧ withinF (withA a b) v = true := by
  have rv := range_in ha hv
  obtain ⟨p1, p2, p3⟩ := withinF_iff.1 hv
  obtain ⟨q1, q2, q3⟩ := (in_iff hb).1 hw
  unfold withB withA
  by_cases c1 : stepF b ≠ 0
  · rw [if_pos c1, if_pos c1]; exact ⟨rfl, hv⟩
  · rw [if_neg c1, if_neg c1]
    have hz : b.lo = b.hi := (step_zero hb).1 (by omega)
    by_cases c2 : a.lo = b.lo
    · rw [if_pos c2, if_pos c2]
      have c := clip_some ha (lo := a.lo + 1) (hi := 2147483647) hv (by omega) (by omega)
      exact ⟨c, ((clip_spec ha c).2.2 v).2 ⟨hv, by omega, by omega⟩⟩
    · rw [if_neg c2, if_neg c2]
      by_cases c3 : a.hi = b.lo
      · rw [if_pos c3, if_pos c3]
        have c := clip_some ha (lo := -2147483648) (hi := a.hi - 1) hv (by omega) (by omega)
        exact ⟨c, ((clip_spec ha c).2.2 v).2 ⟨hv, by omega, by omega⟩⟩
      · rw [if_neg c3, if_neg c3]; exact ⟨rfl, hv⟩
def neqT (a b : Abs) : Two := if (withB a b && withB b (withA a b)) = true then ⟨withA a b, withA b (withA a b), true⟩ else noTwo
def reMask (m : Abs) (k : Int) : Abs := ⟨m.lo, m.hi, m.m, m.r, k⟩
theorem reMask_VA {m : Abs} (h : VA m) {k : Int} (hk : 0 ≤ k ∧ k ≤ 255) : VA (reMask m k) := ⟨h.1, h.2.1, h.2.2.1, hk.1, hk.2, h.2.2.2.2.2.1, h.2.2.2.2.2.2.1, h.2.2.2.2.2.2.2⟩
theorem reMask_in (m : Abs) (k v : Int) : withinF (reMask m k) v = withinF m v := rfl
noncomputable def eqT (a b : Abs) : Two := if meetB a b = true then ⟨reMask (meetA a b) a.mask, reMask (meetA a b) b.mask, true⟩ else noTwo
noncomputable def refT (op : Int) (h : Bool) (a b : Abs) : Two :=
  if op = 4 then (if h = true then eqT a b else neqT a b)
  else if op ≠ 2 ∧ op ≠ 3 then ⟨a, b, true⟩
  else if h = true then lessT a b (3 - op) else ⟨(lessT b a (1 - (3 - op))).y, (lessT b a (1 - (3 - op))).x, (lessT b a (1 - (3 - op))).is⟩
/-- What a comparison says. -/
def cmpF (op v w : Int) : Bool := if op = 2 then decide (v < w) else if op = 3 then decide (v ≤ w) else decide (v = w)
theorem eq_left {a b : Abs} (ha : VA a) (hb : VA b) (h : meetB a b = true) : Left a b (eqT a b) := by
  obtain ⟨h1, h2, h3⟩ := meetA_spec ha hb h
  have kA : 0 ≤ a.mask ∧ a.mask ≤ 255 := ⟨ha.2.2.2.1, ha.2.2.2.2.1⟩
  have kB : 0 ≤ b.mask ∧ b.mask ≤ 255 := ⟨hb.2.2.2.1, hb.2.2.2.2.1⟩
  unfold eqT
  rw [if_pos h]
  exact ⟨rfl, reMask_VA h1 kA, reMask_VA h1 kB, rfl, rfl, (leq_sem (reMask_VA h1 kA) ha).2 ⟨fun v hv => ((h3 v).1 hv).1, subB_refl _⟩, (leq_sem (reMask_VA h1 kB) hb).2 ⟨fun v hv => ((h3 v).1 hv).2, subB_refl _⟩⟩
theorem neq_left {a b : Abs} (ha : VA a) (hb : VA b) (h : (neqT a b).is = true) : Left a b (neqT a b) := by
  unfold neqT at h ⊢
  split at h
  · rename_i c
    rw [if_pos c]
    simp only [Bool.and_eq_true] at c
    obtain ⟨k1, k2, k3⟩ := with_left ha c.1
    obtain ⟨j1, j2, j3⟩ := with_left hb c.2
    exact ⟨rfl, k1, j1, k2, j2, k3, j3⟩
  · cases h
theorem ref_left {a b : Abs} (ha : VA a) (hb : VA b) {op : Int} {h : Bool} (hi : (refT op h a b).is = true) : Left a b (refT op h a b) := by
  unfold refT at hi ⊢
  split
  · rename_i c1
    rw [if_pos c1] at hi
    split
    · rename_i c2
      rw [if_pos c2] at hi
      refine eq_left ha hb ?_
      unfold eqT at hi
      split at hi
      · assumption
      · cases hi
    · rename_i c2
      rw [if_neg c2] at hi
      exact neq_left ha hb hi
  · rename_i c1
    rw [if_neg c1] at hi
    split
    · exact ⟨rfl, ha, hb, rfl, rfl, leq_refl ha, leq_refl hb⟩
    · rename_i c2
      rw [if_neg c2] at hi
      split
      · rename_i c3
        rw [if_pos c3] at hi
        exact less_left ha hb hi
      · rename_i c3
        rw [if_neg c3] at hi
        obtain ⟨k1, k2, k3, k4, k5, k6, k7⟩ := less_left hb ha hi
        exact ⟨k1, k3, k2, k5, k4, k7, k6⟩
theorem ref_keeps {a b : Abs} (ha : VA a) (hb : VA b) {op v w : Int} (ho : 2 ≤ op ∧ op ≤ 4) (hv : withinF a v = true) (hw : withinF b w = true) :
    (refT op (cmpF op v w) a b).is = true ∧ withinF (refT op (cmpF op v w) a b).x v = true ∧ withinF (refT op (cmpF op v w) a b).y w = true := by
  unfold refT
  by_cases c4 : op = 4
  · subst c4
    rw [if_pos rfl]
    by_cases c : v = w
    · subst c
      rw [if_pos (by simp [cmpF])]
      have hm : meetB a b = true := (meetB_iff ha).2 ⟨v, hv, hw⟩
      obtain ⟨h1, h2, h3⟩ := meetA_spec ha hb hm
      unfold eqT
      rw [if_pos hm]
      exact ⟨rfl, (h3 v).2 ⟨hv, hw⟩, (h3 v).2 ⟨hv, hw⟩⟩
    · rw [if_neg (by simp [cmpF, c])]
      obtain ⟨k1, k2⟩ := with_keeps ha hb hv hw c
      obtain ⟨l1, l2, l3⟩ := with_left ha k1
      obtain ⟨j1, j2⟩ := with_keeps hb l1 hw k2 (Ne.symm c)
      unfold neqT
      rw [if_pos (by rw [k1, j1]; rfl)]
      exact ⟨rfl, k2, j2⟩
  · rw [if_neg c4, if_neg (by omega)]
    have hop : op = 2 ∨ op = 3 := by omega
    cases hc : cmpF op v w with
    | true =>
      rw [if_pos rfl]
      have : v + (3 - op) ≤ w := by
        rcases hop with e | e <;> subst e <;> simp [cmpF] at hc <;> omega
      exact less_keeps ha hb hv hw this
    | false =>
      rw [if_neg (by simp)]
      have : w + (1 - (3 - op)) ≤ v := by
        rcases hop with e | e <;> subst e <;> simp [cmpF] at hc <;> omega
      obtain ⟨k1, k2, k3⟩ := less_keeps hb ha hw hv this
      exact ⟨k1, k3, k2⟩
/- What the functions are said to do. -/
def spClip : Sp
  | [.agg [.int .i64 a0, .int .i64 a1, .int .i64 a2, .int .i64 a3, .int .i64 a4], .int .i64 lo, .int .i64 hi] => .br (validF ⟨a0, a1, a2, a3, a4⟩ && (okN lo && okN hi)) (.ret (.tup [encA (clipF ⟨a0, a1, a2, a3, a4⟩ lo hi), .bool (clipB ⟨a0, a1, a2, a3, a4⟩ lo hi)])) .fail
  | _ => .fail
def encT (t : Two) : V := .tup [encA t.x, encA t.y, .bool t.is]
def encR (t : Two) : V := .agg [iA t.x.lo, iA t.x.hi, iA t.x.m, iA t.x.r, iA t.x.mask, iA t.y.lo, iA t.y.hi, iA t.y.m, iA t.y.r, iA t.y.mask, .bool t.is]
def spLess : Sp
  | [.agg [.int .i64 a0, .int .i64 a1, .int .i64 a2, .int .i64 a3, .int .i64 a4], .agg [.int .i64 b0, .int .i64 b1, .int .i64 b2, .int .i64 b3, .int .i64 b4], .int .i64 d] => .br (validF ⟨a0, a1, a2, a3, a4⟩ && (validF ⟨b0, b1, b2, b3, b4⟩ && decide (0 ≤ d ∧ d ≤ 1))) (.ret (encT (lessT ⟨a0, a1, a2, a3, a4⟩ ⟨b0, b1, b2, b3, b4⟩ d))) .fail
  | _ => .fail
def spWith : Sp
  | [.agg [.int .i64 a0, .int .i64 a1, .int .i64 a2, .int .i64 a3, .int .i64 a4], .agg [.int .i64 b0, .int .i64 b1, .int .i64 b2, .int .i64 b3, .int .i64 b4]] => .br (validF ⟨a0, a1, a2, a3, a4⟩ && validF ⟨b0, b1, b2, b3, b4⟩) (.ret (.tup [encA (withA ⟨a0, a1, a2, a3, a4⟩ ⟨b0, b1, b2, b3, b4⟩), .bool (withB ⟨a0, a1, a2, a3, a4⟩ ⟨b0, b1, b2, b3, b4⟩)])) .fail
  | _ => .fail
noncomputable def spEqual : Sp
  | [.agg [.int .i64 a0, .int .i64 a1, .int .i64 a2, .int .i64 a3, .int .i64 a4], .agg [.int .i64 b0, .int .i64 b1, .int .i64 b2, .int .i64 b3, .int .i64 b4]] => .br (validF ⟨a0, a1, a2, a3, a4⟩ && validF ⟨b0, b1, b2, b3, b4⟩) (.ret (encT (eqT ⟨a0, a1, a2, a3, a4⟩ ⟨b0, b1, b2, b3, b4⟩))) .fail
  | _ => .fail
noncomputable def spRefine : Sp
  | [.int .i64 op, .bool h, .agg [.int .i64 a0, .int .i64 a1, .int .i64 a2, .int .i64 a3, .int .i64 a4], .agg [.int .i64 b0, .int .i64 b1, .int .i64 b2, .int .i64 b3, .int .i64 b4]] => .br (validF ⟨a0, a1, a2, a3, a4⟩ && validF ⟨b0, b1, b2, b3, b4⟩) (.ret (encT (refT op h ⟨a0, a1, a2, a3, a4⟩ ⟨b0, b1, b2, b3, b4⟩))) .fail
  | _ => .fail
noncomputable def spRef : Sp
  | [.int .i64 op, .bool h, .agg [.int .i64 a0, .int .i64 a1, .int .i64 a2, .int .i64 a3, .int .i64 a4, .int .i64 b0, .int .i64 b1, .int .i64 b2, .int .i64 b3, .int .i64 b4]] => .br (validF ⟨a0, a1, a2, a3, a4⟩ && validF ⟨b0, b1, b2, b3, b4⟩) (.ret (encR (refT op h ⟨a0, a1, a2, a3, a4⟩ ⟨b0, b1, b2, b3, b4⟩))) .fail
  | _ => .fail
noncomputable def L14 : LT := (102, spClip) :: L13
noncomputable def L15 : LT := (95, spLess) :: (94, spWith) :: (93, spEqual) :: L14
noncomputable def L16 : LT := (65, spRefine) :: L15
noncomputable def L17 : LT := (34, spRef) :: L16
def lessK : Nat → List Nat
  | 2003 => [1]
  | 3005 => [2, 2, 3, 3]
  | _ => []
def eqK : Nat → List Nat
  | 3005 => [5, 16, 7, 17]
  | 3006 => [2, 2, 3, 3]
  | _ => []
def refK : Nat → List Nat
  | 2001 => [1]
  | 2011 => [1]
  | 3010 => [2, 2, 3, 3]
  | 3012 => [2, 2, 3, 3]
  | 3017 => [3, 2, 4, 3]
  | _ => []
end Go.Proofs.Ytamfgbenceoleaa.Span
/-! Residuals of the functions behind Refine. -/
namespace Go.Proofs.Ytamfgbenceoleaa.Span
set_option linter.unusedVariables false
set_option linter.unusedSimpArgs false
set_option linter.unusedSectionVars false
set_option linter.unnecessarySimpa false
open Go.Proofs.Ytamfgbenceoleaa.Ev Go.RowKit
set_option maxRecDepth 100000
set_option maxHeartbeats 4000000
theorem clip_ev (a0 a1 a2 a3 a4 lo hi : Int) : evFn Itp Try.prog (fromList L13) (fun _ => []) noLoops Try.f102 [.agg [.int .i64 a0, .int .i64 a1, .int .i64 a2, .int .i64 a3, .int .i64 a4], iA lo, iA hi] some =
    bif okMod a2 then bif decide (IntKind.i64.wrap (mxI a0 lo + IntKind.i64.wrap (a0 - mxI a0 lo) % a2) > mnI a1 hi) then some (AV.tup [AV.agg [AV.int IntKind.i64 0, AV.int IntKind.i64 0, AV.int IntKind.i64 0, AV.int IntKind.i64 0, AV.int IntKind.i64 0], AV.bool false]) else bif okBy (IntKind.i64.wrap (mxI a0 lo + IntKind.i64.wrap (a0 - mxI a0 lo) % a2)) (mnI a1 hi) a2 then some (AV.tup [encA (byF (IntKind.i64.wrap (mxI a0 lo + IntKind.i64.wrap (a0 - mxI a0 lo) % a2)) (mnI a1 hi) a2 a4), AV.bool true]) else none else none := by
  kernel_rfl
theorem less_ev (a0 a1 a2 a3 a4 b0 b1 b2 b3 b4 d : Int) : evFn Itp Try.prog (fromList L14) lessK noLoops Try.f95 [.agg [.int .i64 a0, .int .i64 a1, .int .i64 a2, .int .i64 a3, .int .i64 a4], .agg [.int .i64 b0, .int .i64 b1, .int .i64 b2, .int .i64 b3, .int .i64 b4], iA d] some =
    bif validF { lo := a0, hi := a1, m := a2, r := a3, mask := a4 } && okN (IntKind.i64.wrap (b1 - d)) then bif validF { lo := b0, hi := b1, m := b2, r := b3, mask := b4 } && (okN (IntKind.i64.wrap (a0 + d)) && true) then bif bif !clipB { lo := a0, hi := a1, m := a2, r := a3, mask := a4 } (-2147483648) (IntKind.i64.wrap (b1 - d)) then true else !clipB { lo := b0, hi := b1, m := b2, r := b3, mask := b4 } (IntKind.i64.wrap (a0 + d)) 2147483647 then some (AV.tup [AV.agg [AV.int IntKind.i64 0, AV.int IntKind.i64 0, AV.int IntKind.i64 0, AV.int IntKind.i64 0, AV.int IntKind.i64 0], AV.agg [AV.int IntKind.i64 0, AV.int IntKind.i64 0, AV.int IntKind.i64 0, AV.int IntKind.i64 0, AV.int IntKind.i64 0], AV.bool false]) else some (AV.tup [encA (clipF { lo := a0, hi := a1, m := a2, r := a3, mask := a4 } (-2147483648) (IntKind.i64.wrap (b1 - d))), encA (clipF { lo := b0, hi := b1, m := b2, r := b3, mask := b4 } (IntKind.i64.wrap (a0 + d)) 2147483647), AV.bool true]) else none else none := by
  kernel_rfl
theorem with_ev (a0 a1 a2 a3 a4 b0 b1 b2 b3 b4 : Int) : evFn Itp Try.prog (fromList L14) (fun _ => []) noLoops Try.f94 [.agg [.int .i64 a0, .int .i64 a1, .int .i64 a2, .int .i64 a3, .int .i64 a4], .agg [.int .i64 b0, .int .i64 b1, .int .i64 b2, .int .i64 b3, .int .i64 b4]] some =
    bif stepF { lo := b0, hi := b1, m := b2, r := b3, mask := b4 } != 0 then some (AV.tup [AV.agg [AV.int IntKind.i64 a0, AV.int IntKind.i64 a1, AV.int IntKind.i64 a2, AV.int IntKind.i64 a3, AV.int IntKind.i64 a4], AV.bool true]) else bif a0 == b0 then bif validF { lo := a0, hi := a1, m := a2, r := a3, mask := a4 } && (okN (IntKind.i64.wrap (a0 + 1)) && true) then some (AV.tup [encA (clipF { lo := a0, hi := a1, m := a2, r := a3, mask := a4 } (IntKind.i64.wrap (a0 + 1)) 2147483647), AV.bool (clipB { lo := a0, hi := a1, m := a2, r := a3, mask := a4 } (IntKind.i64.wrap (a0 + 1)) 2147483647)]) else none else bif a1 == b0 then bif validF { lo := a0, hi := a1, m := a2, r := a3, mask := a4 } && okN (IntKind.i64.wrap (a1 - 1)) then some (AV.tup [encA (clipF { lo := a0, hi := a1, m := a2, r := a3, mask := a4 } (-2147483648) (IntKind.i64.wrap (a1 - 1))), AV.bool (clipB { lo := a0, hi := a1, m := a2, r := a3, mask := a4 } (-2147483648) (IntKind.i64.wrap (a1 - 1)))]) else none else some (AV.tup [AV.agg [AV.int IntKind.i64 a0, AV.int IntKind.i64 a1, AV.int IntKind.i64 a2, AV.int IntKind.i64 a3, AV.int IntKind.i64 a4], AV.bool true]) := by
  kernel_rfl
theorem equal_ev (a0 a1 a2 a3 a4 b0 b1 b2 b3 b4 : Int) : evFn Itp Try.prog (fromList L14) eqK noLoops Try.f93 [.agg [.int .i64 a0, .int .i64 a1, .int .i64 a2, .int .i64 a3, .int .i64 a4], .agg [.int .i64 b0, .int .i64 b1, .int .i64 b2, .int .i64 b3, .int .i64 b4]] some =
    bif validF { lo := a0, hi := a1, m := a2, r := a3, mask := a4 } && validF { lo := b0, hi := b1, m := b2, r := b3, mask := b4 } then bif !meetB { lo := a0, hi := a1, m := a2, r := a3, mask := a4 } { lo := b0, hi := b1, m := b2, r := b3, mask := b4 } then some (AV.tup [AV.agg [AV.int IntKind.i64 0, AV.int IntKind.i64 0, AV.int IntKind.i64 0, AV.int IntKind.i64 0, AV.int IntKind.i64 0], AV.agg [AV.int IntKind.i64 0, AV.int IntKind.i64 0, AV.int IntKind.i64 0, AV.int IntKind.i64 0, AV.int IntKind.i64 0], AV.bool false]) else some (AV.tup [AV.agg [AV.int IntKind.i64 (meetA { lo := a0, hi := a1, m := a2, r := a3, mask := a4 } { lo := b0, hi := b1, m := b2, r := b3, mask := b4 }).lo, AV.int IntKind.i64 (meetA { lo := a0, hi := a1, m := a2, r := a3, mask := a4 } { lo := b0, hi := b1, m := b2, r := b3, mask := b4 }).hi, AV.int IntKind.i64 (meetA { lo := a0, hi := a1, m := a2, r := a3, mask := a4 } { lo := b0, hi := b1, m := b2, r := b3, mask := b4 }).m, AV.int IntKind.i64 (meetA { lo := a0, hi := a1, m := a2, r := a3, mask := a4 } { lo := b0, hi := b1, m := b2, r := b3, mask := b4 }).r, AV.int IntKind.i64 a4], AV.agg [AV.int IntKind.i64 (meetA { lo := a0, hi := a1, m := a2, r := a3, mask := a4 } { lo := b0, hi := b1, m := b2, r := b3, mask := b4 }).lo, AV.int IntKind.i64 (meetA { lo := a0, hi := a1, m := a2, r := a3, mask := a4 } { lo := b0, hi := b1, m := b2, r := b3, mask := b4 }).hi, AV.int IntKind.i64 (meetA { lo := a0, hi := a1, m := a2, r := a3, mask := a4 } { lo := b0, hi := b1, m := b2, r := b3, mask := b4 }).m, AV.int IntKind.i64 (meetA { lo := a0, hi := a1, m := a2, r := a3, mask := a4 } { lo := b0, hi := b1, m := b2, r := b3, mask := b4 }).r, AV.int IntKind.i64 b4], AV.bool true]) else none := by
  kernel_rfl
theorem refine_ev (op a0 a1 a2 a3 a4 b0 b1 b2 b3 b4 : Int) (h : Bool) : evFn Itp Try.prog (fromList L15) refK noLoops Try.f65 [iA op, .bool h, .agg [.int .i64 a0, .int .i64 a1, .int .i64 a2, .int .i64 a3, .int .i64 a4], .agg [.int .i64 b0, .int .i64 b1, .int .i64 b2, .int .i64 b3, .int .i64 b4]] some =
    bif bif op == 4 then h else false then bif validF { lo := a0, hi := a1, m := a2, r := a3, mask := a4 } && validF { lo := b0, hi := b1, m := b2, r := b3, mask := b4 } then some (AV.tup [encA (eqT { lo := a0, hi := a1, m := a2, r := a3, mask := a4 } { lo := b0, hi := b1, m := b2, r := b3, mask := b4 }).x, encA (eqT { lo := a0, hi := a1, m := a2, r := a3, mask := a4 } { lo := b0, hi := b1, m := b2, r := b3, mask := b4 }).y, AV.bool (eqT { lo := a0, hi := a1, m := a2, r := a3, mask := a4 } { lo := b0, hi := b1, m := b2, r := b3, mask := b4 }).is]) else none else bif op == 4 then bif validF { lo := a0, hi := a1, m := a2, r := a3, mask := a4 } && validF { lo := b0, hi := b1, m := b2, r := b3, mask := b4 } then bif !withB { lo := a0, hi := a1, m := a2, r := a3, mask := a4 } { lo := b0, hi := b1, m := b2, r := b3, mask := b4 } then some (AV.tup [AV.agg [AV.int IntKind.i64 0, AV.int IntKind.i64 0, AV.int IntKind.i64 0, AV.int IntKind.i64 0, AV.int IntKind.i64 0], AV.agg [AV.int IntKind.i64 0, AV.int IntKind.i64 0, AV.int IntKind.i64 0, AV.int IntKind.i64 0, AV.int IntKind.i64 0], AV.bool false]) else bif validF { lo := b0, hi := b1, m := b2, r := b3, mask := b4 } && validF (withA { lo := a0, hi := a1, m := a2, r := a3, mask := a4 } { lo := b0, hi := b1, m := b2, r := b3, mask := b4 }) then bif !withB { lo := b0, hi := b1, m := b2, r := b3, mask := b4 } (withA { lo := a0, hi := a1, m := a2, r := a3, mask := a4 } { lo := b0, hi := b1, m := b2, r := b3, mask := b4 }) then some (AV.tup [AV.agg [AV.int IntKind.i64 0, AV.int IntKind.i64 0, AV.int IntKind.i64 0, AV.int IntKind.i64 0, AV.int IntKind.i64 0], AV.agg [AV.int IntKind.i64 0, AV.int IntKind.i64 0, AV.int IntKind.i64 0, AV.int IntKind.i64 0, AV.int IntKind.i64 0], AV.bool false]) else some (AV.tup [encA (withA { lo := a0, hi := a1, m := a2, r := a3, mask := a4 } { lo := b0, hi := b1, m := b2, r := b3, mask := b4 }), encA (withA { lo := b0, hi := b1, m := b2, r := b3, mask := b4 } (withA { lo := a0, hi := a1, m := a2, r := a3, mask := a4 } { lo := b0, hi := b1, m := b2, r := b3, mask := b4 })), AV.bool true]) else none else none else bif bif op != 2 then op != 3 else false then some (AV.tup [AV.agg [AV.int IntKind.i64 a0, AV.int IntKind.i64 a1, AV.int IntKind.i64 a2, AV.int IntKind.i64 a3, AV.int IntKind.i64 a4], AV.agg [AV.int IntKind.i64 b0, AV.int IntKind.i64 b1, AV.int IntKind.i64 b2, AV.int IntKind.i64 b3, AV.int IntKind.i64 b4], AV.bool true]) else bif h then bif validF { lo := a0, hi := a1, m := a2, r := a3, mask := a4 } && (validF { lo := b0, hi := b1, m := b2, r := b3, mask := b4 } && decide (0 ≤ IntKind.i64.wrap (3 - op) ∧ IntKind.i64.wrap (3 - op) ≤ 1)) then some (AV.tup [encA (lessT { lo := a0, hi := a1, m := a2, r := a3, mask := a4 } { lo := b0, hi := b1, m := b2, r := b3, mask := b4 } (IntKind.i64.wrap (3 - op))).x, encA (lessT { lo := a0, hi := a1, m := a2, r := a3, mask := a4 } { lo := b0, hi := b1, m := b2, r := b3, mask := b4 } (IntKind.i64.wrap (3 - op))).y, AV.bool (lessT { lo := a0, hi := a1, m := a2, r := a3, mask := a4 } { lo := b0, hi := b1, m := b2, r := b3, mask := b4 } (IntKind.i64.wrap (3 - op))).is]) else none else bif validF { lo := b0, hi := b1, m := b2, r := b3, mask := b4 } && (validF { lo := a0, hi := a1, m := a2, r := a3, mask := a4 } && decide (0 ≤ IntKind.i64.wrap (1 - IntKind.i64.wrap (3 - op)) ∧ IntKind.i64.wrap (1 - IntKind.i64.wrap (3 - op)) ≤ 1)) then some (AV.tup [encA (lessT { lo := b0, hi := b1, m := b2, r := b3, mask := b4 } { lo := a0, hi := a1, m := a2, r := a3, mask := a4 } (IntKind.i64.wrap (1 - IntKind.i64.wrap (3 - op)))).y, encA (lessT { lo := b0, hi := b1, m := b2, r := b3, mask := b4 } { lo := a0, hi := a1, m := a2, r := a3, mask := a4 } (IntKind.i64.wrap (1 - IntKind.i64.wrap (3 - op)))).x, AV.bool (lessT { lo := b0, hi := b1, m := b2, r := b3, mask := b4 } { lo := a0, hi := a1, m := a2, r := a3, mask := a4 } (IntKind.i64.wrap (1 - IntKind.i64.wrap (3 - op)))).is]) else none := by
  kernel_rfl
theorem ref_ev (op a0 a1 a2 a3 a4 b0 b1 b2 b3 b4 : Int) (h : Bool) : evFn Itp Try.prog (fromList L16) (fun _ => []) noLoops Try.f34 [iA op, .bool h, .agg [.int .i64 a0, .int .i64 a1, .int .i64 a2, .int .i64 a3, .int .i64 a4, .int .i64 b0, .int .i64 b1, .int .i64 b2, .int .i64 b3, .int .i64 b4]] some =
    bif validF { lo := a0, hi := a1, m := a2, r := a3, mask := a4 } && validF { lo := b0, hi := b1, m := b2, r := b3, mask := b4 } then some (AV.agg [AV.int IntKind.i64 (refT op h { lo := a0, hi := a1, m := a2, r := a3, mask := a4 } { lo := b0, hi := b1, m := b2, r := b3, mask := b4 }).x.lo, AV.int IntKind.i64 (refT op h { lo := a0, hi := a1, m := a2, r := a3, mask := a4 } { lo := b0, hi := b1, m := b2, r := b3, mask := b4 }).x.hi, AV.int IntKind.i64 (refT op h { lo := a0, hi := a1, m := a2, r := a3, mask := a4 } { lo := b0, hi := b1, m := b2, r := b3, mask := b4 }).x.m, AV.int IntKind.i64 (refT op h { lo := a0, hi := a1, m := a2, r := a3, mask := a4 } { lo := b0, hi := b1, m := b2, r := b3, mask := b4 }).x.r, AV.int IntKind.i64 (refT op h { lo := a0, hi := a1, m := a2, r := a3, mask := a4 } { lo := b0, hi := b1, m := b2, r := b3, mask := b4 }).x.mask, AV.int IntKind.i64 (refT op h { lo := a0, hi := a1, m := a2, r := a3, mask := a4 } { lo := b0, hi := b1, m := b2, r := b3, mask := b4 }).y.lo, AV.int IntKind.i64 (refT op h { lo := a0, hi := a1, m := a2, r := a3, mask := a4 } { lo := b0, hi := b1, m := b2, r := b3, mask := b4 }).y.hi, AV.int IntKind.i64 (refT op h { lo := a0, hi := a1, m := a2, r := a3, mask := a4 } { lo := b0, hi := b1, m := b2, r := b3, mask := b4 }).y.m, AV.int IntKind.i64 (refT op h { lo := a0, hi := a1, m := a2, r := a3, mask := a4 } { lo := b0, hi := b1, m := b2, r := b3, mask := b4 }).y.r, AV.int IntKind.i64 (refT op h { lo := a0, hi := a1, m := a2, r := a3, mask := a4 } { lo := b0, hi := b1, m := b2, r := b3, mask := b4 }).y.mask, AV.bool (refT op h { lo := a0, hi := a1, m := a2, r := a3, mask := a4 } { lo := b0, hi := b1, m := b2, r := b3, mask := b4 }).is]) else none := by
  kernel_rfl
end Go.Proofs.Ytamfgbenceoleaa.Span
/-! Contracts of the functions behind Refine. -/
namespace Go.Proofs.Ytamfgbenceoleaa.Span
set_option linter.unusedVariables false
set_option linter.unusedSimpArgs false
set_option linter.unusedSectionVars false
set_option linter.unnecessarySimpa false
open Go.Proofs.Ytamfgbenceoleaa.Ev Go.RowKit
set_option maxRecDepth 100000
set_option maxHeartbeats 4000000
theorem ok_clip : FnOk Itp Try.prog 102 spClip := fnOk S13 hm Try.func102 spClip fun args v hv => by
  unfold spClip at hv
  split at hv
  · rename_i a0 a1 a2 a3 a4 lo hi
    obtain ⟨h, hv⟩ := has_br hv
    have hv := has_ret hv
    subst hv
    simp only [Bool.and_eq_true, validF_iff, okN_iff] at h
    obtain ⟨hA, hlo, hhi⟩ := h
    refine (clip_ev a0 a1 a2 a3 a4 lo hi).trans ?_
    have p1 := hA.1; have p2 := hA.2.1; have p3 := hA.2.2.1; have p4 := hA.m_le
    simp only at p1 p2 p3 p4
    have e1 : okMod a2 = true := okMod_iff.2 ⟨by omega, by omega⟩
    rw [mxI_eq, mnI_eq, wrap_of (n := a0 - max a0 lo) (by omega) (by omega)]
    have r0 := Int.emod_nonneg (a0 - max a0 lo) (show a2 ≠ 0 by omega)
    have r1 := Int.emod_lt_of_pos (a0 - max a0 lo) (show 0 < a2 by omega)
    rw [wrap_of (n := max a0 lo + (a0 - max a0 lo) % a2) (by omega) (by omega)]
    have hL : clipLo ⟨a0, a1, a2, a3, a4⟩ lo = max a0 lo + (a0 - max a0 lo) % a2 := rfl
    by_cases c : max a0 lo + (a0 - max a0 lo) % a2 > min a1 hi
    · have hb : clipB ⟨a0, a1, a2, a3, a4⟩ lo hi = false := by unfold clipB; rw [hL]; exact decide_eq_false (by simp only; omega)
      have hf : clipF ⟨a0, a1, a2, a3, a4⟩ lo hi = zeroA := by unfold clipF; rw [hb]; rfl
      simp only [e1, c, decide_true, cond_true, hb, hf]; rfl
    · have hb : clipB ⟨a0, a1, a2, a3, a4⟩ lo hi = true := by unfold clipB; rw [hL]; exact decide_eq_true (by simp only; omega)
      have hf : clipF ⟨a0, a1, a2, a3, a4⟩ lo hi = byF (max a0 lo + (a0 - max a0 lo) % a2) (min a1 hi) a2 a4 := by unfold clipF; rw [hb]; rfl
      have e2 : okBy (max a0 lo + (a0 - max a0 lo) % a2) (min a1 hi) a2 = true := okBy_iff.2 ⟨by omega, by omega, by omega, by omega, by omega, by omega⟩
      simp only [e1, e2, c, decide_false, cond_true, cond_false, hb, hf]
  · exact hv.elim
theorem S14 : SpecOk Itp Try.prog (fromList L14) := specOk_cons (en _ _ Try.func102) ok_clip S13
theorem ok_less : FnOk Itp Try.prog 95 spLess := fnOkL S14 hm Try.func95 spLess lessK noLoops (by kernel_rfl) (fun _ _ _ _ h => h.elim) fun args v hv => by
  unfold spLess at hv
  split at hv
  · rename_i a0 a1 a2 a3 a4 b0 b1 b2 b3 b4 d
    obtain ⟨h, hv⟩ := has_br hv
    have hv := has_ret hv
    subst hv
    simp only [Bool.and_eq_true, validF_iff, decide_eq_true_eq] at h
    obtain ⟨hA, hB, hd⟩ := h
    refine (less_ev a0 a1 a2 a3 a4 b0 b1 b2 b3 b4 d).trans ?_
    have p1 := hA.1; have p2 := hA.2.1; have p3 := hA.2.2.1
    have q1 := hB.1; have q2 := hB.2.1; have q3 := hB.2.2.1
    simp only at p1 p2 p3 q1 q2 q3
    have f1 : validF ⟨a0, a1, a2, a3, a4⟩ = true := validF_iff.2 hA
    have f2 : validF ⟨b0, b1, b2, b3, b4⟩ = true := validF_iff.2 hB
    rw [wrap_of (n := b1 - d) (by omega) (by omega), wrap_of (n := a0 + d) (by omega) (by omega)]
    have f3 : okN (b1 - d) = true := okN_iff.2 (by omega)
    have f4 : okN (a0 + d) = true := okN_iff.2 (by omega)
    simp only [f1, f2, f3, f4, Bool.and_self, cond_true, lessT, Bool.and_eq_true]
    cases h1 : clipB ⟨a0, a1, a2, a3, a4⟩ (-2147483648) (b1 - d) <;> cases h2 : clipB ⟨b0, b1, b2, b3, b4⟩ (a0 + d) 2147483647 <;> rfl
  · exact hv.elim
theorem ok_with : FnOk Itp Try.prog 94 spWith := fnOk S14 hm Try.func94 spWith fun args v hv => by
  unfold spWith at hv
  split at hv
  · rename_i a0 a1 a2 a3 a4 b0 b1 b2 b3 b4
    obtain ⟨h, hv⟩ := has_br hv
    have hv := has_ret hv
    subst hv
    simp only [Bool.and_eq_true, validF_iff] at h
    obtain ⟨hA, hB⟩ := h
    refine (with_ev a0 a1 a2 a3 a4 b0 b1 b2 b3 b4).trans ?_
    have p1 := hA.1; have p2 := hA.2.1; have p3 := hA.2.2.1
    simp only at p1 p2 p3
    have f1 : validF ⟨a0, a1, a2, a3, a4⟩ = true := validF_iff.2 hA
    rw [wrap_of (n := a0 + 1) (by omega) (by omega), wrap_of (n := a1 - 1) (by omega) (by omega)]
    have f3 : okN (a0 + 1) = true := okN_iff.2 (by omega)
    have f4 : okN (a1 - 1) = true := okN_iff.2 (by omega)
    simp only [f1, f3, f4, Bool.and_self, cond_true, withA, withB]
    by_cases c1 : stepF ⟨b0, b1, b2, b3, b4⟩ = 0
    · simp only [c1, bne_self_eq_false, cond_false, ne_eq, not_true, if_false]
      by_cases c2 : a0 = b0
      · simp [c2]
      · rw [show (a0 == b0) = false from beq_eq_false_iff_ne.mpr c2]
        simp only [cond_false, c2, if_false]
        by_cases c3 : a1 = b0
        · simp [c3]
        · rw [show (a1 == b0) = false from beq_eq_false_iff_ne.mpr c3]
          simp only [cond_false, c3, if_false]; rfl
    · rw [show (stepF ⟨b0, b1, b2, b3, b4⟩ != 0) = true by simpa using c1]
      simp only [cond_true, ne_eq, c1, not_false_eq_true, if_true]; rfl
  · exact hv.elim
theorem ok_equal : FnOk Itp Try.prog 93 spEqual := fnOkL S14 hm Try.func93 spEqual eqK noLoops (by kernel_rfl) (fun _ _ _ _ h => h.elim) fun args v hv => by
  unfold spEqual at hv
  split at hv
  · rename_i a0 a1 a2 a3 a4 b0 b1 b2 b3 b4
    obtain ⟨h, hv⟩ := has_br hv
    have hv := has_ret hv
    subst hv
    refine (equal_ev a0 a1 a2 a3 a4 b0 b1 b2 b3 b4).trans ?_
    rw [h]
    simp only [cond_true, eqT]
    cases meetB ⟨a0, a1, a2, a3, a4⟩ ⟨b0, b1, b2, b3, b4⟩ <;> rfl
  · exact hv.elim
theorem S15 : SpecOk Itp Try.prog (fromList L15) := specOk_cons (en _ _ Try.func95) ok_less <| specOk_cons (en _ _ Try.func94) ok_with <| specOk_cons (en _ _ Try.func93) ok_equal S14
theorem ok_refine : FnOk Itp Try.prog 65 spRefine := fnOkL S15 hm Try.func65 spRefine refK noLoops (by kernel_rfl) (fun _ _ _ _ h => h.elim) fun args v hv => by
  unfold spRefine at hv
  split at hv
  · rename_i op h a0 a1 a2 a3 a4 b0 b1 b2 b3 b4
    obtain ⟨hh, hv⟩ := has_br hv
    have hv := has_ret hv
    subst hv
    simp only [Bool.and_eq_true, validF_iff] at hh
    obtain ⟨hA, hB⟩ := hh
    refine (refine_ev op a0 a1 a2 a3 a4 b0 b1 b2 b3 b4 h).trans ?_
    have f1 : validF ⟨a0, a1, a2, a3, a4⟩ = true := validF_iff.2 hA
    have f2 : validF ⟨b0, b1, b2, b3, b4⟩ = true := validF_iff.2 hB
    simp only [f1, f2, Bool.and_self, cond_true, Bool.true_and, refT]
    by_cases c4 : op = 4
    · subst c4
      simp only [beq_self_eq_true, cond_true, if_true]
      cases h with
      | true => rfl
      | false =>
        simp only [cond_false, Bool.false_eq_true, if_false, neqT]
        cases h1 : withB ⟨a0, a1, a2, a3, a4⟩ ⟨b0, b1, b2, b3, b4⟩ with
        | false => rfl
        | true =>
          have f3 : validF (withA ⟨a0, a1, a2, a3, a4⟩ ⟨b0, b1, b2, b3, b4⟩) = true := validF_iff.2 (with_left hA h1).1
          simp only [f3, Bool.not_true, cond_false, cond_true, Bool.true_and]
          cases withB ⟨b0, b1, b2, b3, b4⟩ (withA ⟨a0, a1, a2, a3, a4⟩ ⟨b0, b1, b2, b3, b4⟩) <;> rfl
    · rw [show (op == 4) = false from beq_eq_false_iff_ne.mpr c4]
      simp only [cond_false, c4, if_false]
      by_cases c2 : op = 2
      · subst c2
        cases h <;> rfl
      · rw [show (op != 2) = true by simpa using c2]
        by_cases c3 : op = 3
        · subst c3
          cases h <;> rfl
        · rw [show (op != 3) = true by simpa using c3]
          simp only [cond_true, c2, c3, ne_eq, not_false_eq_true, and_self, if_true]; rfl
  · exact hv.elim
theorem S16 : SpecOk Itp Try.prog (fromList L16) := specOk_cons (en _ _ Try.func65) ok_refine S15
theorem ok_ref : FnOk Itp Try.prog 34 spRef := fnOk S16 hm Try.func34 spRef fun args v hv => by
  unfold spRef at hv
  split at hv
  · rename_i op h a0 a1 a2 a3 a4 b0 b1 b2 b3 b4
    obtain ⟨hh, hv⟩ := has_br hv
    have hv := has_ret hv
    subst hv
    refine (ref_ev op a0 a1 a2 a3 a4 b0 b1 b2 b3 b4 h).trans ?_
    rw [hh]; rfl
  · exact hv.elim
theorem S17 : SpecOk Itp Try.prog (fromList L17) := specOk_cons (en _ _ Try.func34) ok_ref S16
end Go.Proofs.Ytamfgbenceoleaa.Span
/-! Conditions that compare two numbers. -/
namespace Go.Proofs.Ytamfgbenceoleaa.Span
set_option linter.unusedVariables false
set_option linter.unusedSimpArgs false
set_option linter.unusedSectionVars false
set_option linter.unnecessarySimpa false
open Go.Proofs.Ytamfgbenceoleaa.Ev Go.RowKit
def numE (v : Int) : List V := [iA 1, iA 0, iA v, .sli 0 []]
def isNum (o n : Int) : Bool := decide (o = 1) && decide (n = 0)
def spNum : Sp
  | [.int .i64 v] => .ret (.agg (numE v))
  | _ => .fail
def spAtE : Sp
  | [.sli 4 [[.int .i64 o, .int .i64 n, .int .i64 v, .sli 0 []], [.int .i64 p, .int .i64 m, .int .i64 w, .sli 0 []]], .int .i64 i] => .br (isNum o n && isNum p m) (.br (decide (i = 0)) (.ret (.agg (numE v))) (.br (decide (i = 1)) (.ret (.agg (numE w))) .fail)) .fail
  | _ => .fail
def spEvN : Sp
  | [.agg [.int .i64 o, .int .i64 n, .int .i64 v, .sli 0 []], .sli 0 [], .sli 0 []] => .br (isNum o n) (.ret (iA (w32 v))) .fail
  | _ => .fail
def spH1 : Sp
  | [.int .i64 i, .elt [.int .i64 op, .sli 4 [[.int .i64 o, .int .i64 n, .int .i64 v, .sli 0 []], [.int .i64 p, .int .i64 m, .int .i64 w, .sli 0 []]], .sli 0 []] 0, .elt [.sli 0 []] 0, .elt [.sli 0 []] 0] => .br (isNum o n && isNum p m) (.br (decide (i = 0)) (.ret (iA (w32 v))) (.br (decide (i = 1)) (.ret (iA (w32 w))) .fail)) .fail
  | _ => .fail
def spHolds : Sp
  | [.agg [.int .i64 op, .sli 4 [[.int .i64 o, .int .i64 n, .int .i64 v, .sli 0 []], [.int .i64 p, .int .i64 m, .int .i64 w, .sli 0 []]], .sli 0 []], .sli 0 [], .sli 0 []] => .br (isNum o n && (isNum p m && decide (2 ≤ op ∧ op ≤ 4))) (.ret (.bool (cmpF op (w32 v) (w32 w)))) .fail
  | _ => .fail
noncomputable def H1 : LT := (47, spWrap) :: (37, spNum) :: (70, spAtE) :: L17
noncomputable def H2 : LT := (69, spEvN) :: H1
noncomputable def H3 : LT := (68, spH1) :: H2
noncomputable def H4 : LT := (36, spHolds) :: H3
end Go.Proofs.Ytamfgbenceoleaa.Span
/-! Contracts of conditions that compare two numbers. -/
namespace Go.Proofs.Ytamfgbenceoleaa.Span
set_option linter.unusedVariables false
set_option linter.unusedSimpArgs false
set_option linter.unusedSectionVars false
set_option linter.unnecessarySimpa false
open Go.Proofs.Ytamfgbenceoleaa.Ev Go.RowKit
set_option maxRecDepth 100000
set_option maxHeartbeats 4000000
theorem nwrap_ev (v : Int) : evFn Itp Try.prog (fromList L17) (fun _ => []) noLoops Try.f47 [iA v] some =
    some (AV.int IntKind.i64 (IntKind.i64.wrap (IntKind.i32.wrap v))) := by
  kernel_rfl
theorem num_ev (v : Int) : evFn Itp Try.prog (fromList L17) (fun _ => []) noLoops Try.f37 [iA v] some =
    some (AV.agg [AV.int IntKind.i64 1, AV.int IntKind.i64 0, AV.int IntKind.i64 v, AV.sli 0 []]) := by
  kernel_rfl
theorem at0_ev (v w : Int) : evFn Itp Try.prog (fromList L17) (fun _ => []) noLoops Try.f70 [.sli 4 [[.int .i64 1, .int .i64 0, .int .i64 v, .sli 0 []], [.int .i64 1, .int .i64 0, .int .i64 w, .sli 0 []]], iA 0] some =
    some (AV.agg [AV.int IntKind.i64 1, AV.int IntKind.i64 0, AV.int IntKind.i64 v, AV.sli 0 []]) := by
  kernel_rfl
theorem at1_ev (v w : Int) : evFn Itp Try.prog (fromList L17) (fun _ => []) noLoops Try.f70 [.sli 4 [[.int .i64 1, .int .i64 0, .int .i64 v, .sli 0 []], [.int .i64 1, .int .i64 0, .int .i64 w, .sli 0 []]], iA 1] some =
    some (AV.agg [AV.int IntKind.i64 1, AV.int IntKind.i64 0, AV.int IntKind.i64 w, AV.sli 0 []]) := by
  kernel_rfl
theorem evn_ev (v : Int) : evFn Itp Try.prog (fromList H1) (fun _ => []) noLoops Try.f69 [.agg [.int .i64 1, .int .i64 0, .int .i64 v, .sli 0 []], .sli 0 [], .sli 0 []] some =
    some (AV.int IntKind.i64 (w32 v)) := by
  kernel_rfl
theorem h10_ev (op v w : Int) : evFn Itp Try.prog (fromList H2) (fun _ => []) noLoops Try.f68 [iA 0, .elt [iA op, .sli 4 [[.int .i64 1, .int .i64 0, .int .i64 v, .sli 0 []], [.int .i64 1, .int .i64 0, .int .i64 w, .sli 0 []]], .sli 0 []] 0, .elt [.sli 0 []] 0, .elt [.sli 0 []] 0] some =
    some (AV.int IntKind.i64 (w32 v)) := by
  kernel_rfl
theorem h11_ev (op v w : Int) : evFn Itp Try.prog (fromList H2) (fun _ => []) noLoops Try.f68 [iA 1, .elt [iA op, .sli 4 [[.int .i64 1, .int .i64 0, .int .i64 v, .sli 0 []], [.int .i64 1, .int .i64 0, .int .i64 w, .sli 0 []]], .sli 0 []] 0, .elt [.sli 0 []] 0, .elt [.sli 0 []] 0] some =
    some (AV.int IntKind.i64 (w32 w)) := by
  kernel_rfl
theorem holds2_ev (v w : Int) : evFn Itp Try.prog (fromList H3) (fun _ => []) noLoops Try.f36 [.agg [iA 2, .sli 4 [[.int .i64 1, .int .i64 0, .int .i64 v, .sli 0 []], [.int .i64 1, .int .i64 0, .int .i64 w, .sli 0 []]], .sli 0 []], .sli 0 [], .sli 0 []] some =
    some (AV.bool (decide (w32 v < w32 w))) := by
  kernel_rfl
theorem holds3_ev (v w : Int) : evFn Itp Try.prog (fromList H3) (fun _ => []) noLoops Try.f36 [.agg [iA 3, .sli 4 [[.int .i64 1, .int .i64 0, .int .i64 v, .sli 0 []], [.int .i64 1, .int .i64 0, .int .i64 w, .sli 0 []]], .sli 0 []], .sli 0 [], .sli 0 []] some =
    some (AV.bool (decide (w32 v ≤ w32 w))) := by
  kernel_rfl
theorem holds4_ev (v w : Int) : evFn Itp Try.prog (fromList H3) (fun _ => []) noLoops Try.f36 [.agg [iA 4, .sli 4 [[.int .i64 1, .int .i64 0, .int .i64 v, .sli 0 []], [.int .i64 1, .int .i64 0, .int .i64 w, .sli 0 []]], .sli 0 []], .sli 0 [], .sli 0 []] some =
    some (AV.bool (w32 v == w32 w)) := by
  kernel_rfl
end Go.Proofs.Ytamfgbenceoleaa.Span
/-! Contracts of conditions that compare two numbers, proved; and what the loop of SpanRefines does. -/
namespace Go.Proofs.Ytamfgbenceoleaa.Span
set_option linter.unusedVariables false
set_option linter.unusedSimpArgs false
set_option linter.unusedSectionVars false
set_option linter.unnecessarySimpa false
open Go.Proofs.Ytamfgbenceoleaa.Ev Go.RowKit
set_option maxRecDepth 100000
set_option maxHeartbeats 4000000
theorem wrap_i32 (v : Int) : IntKind.i64.wrap (IntKind.i32.wrap v) = w32 v := by
  have e : IntKind.i32.wrap v = if v % 4294967296 ≥ 2147483648 then v % 4294967296 - 4294967296 else v % 4294967296 := by
    simp [IntKind.wrap, IntKind.bits, IntKind.signed]
  rw [e]
  split
  · rw [wrap_of (by omega) (by omega)]; unfold w32; omega
  · rw [wrap_of (by omega) (by omega)]; unfold w32; omega
theorem ok_nwrap : FnOk Itp Try.prog 47 spWrap := fnOk S17 hm Try.func47 spWrap fun args v hv => by
  unfold spWrap at hv
  split at hv
  · rename_i a
    have hv := has_ret hv
    subst hv
    exact (nwrap_ev a).trans (by rw [wrap_i32])
  · exact hv.elim
theorem ok_num : FnOk Itp Try.prog 37 spNum := fnOk S17 hm Try.func37 spNum fun args v hv => by
  unfold spNum at hv
  split at hv
  · rename_i a
    have hv := has_ret hv
    subst hv
    exact num_ev a
  · exact hv.elim
theorem isNum_iff {o n : Int} : isNum o n = true ↔ o = 1 ∧ n = 0 := by simp [isNum]
theorem has_two {v : V} {c : Bool} {x y : V} {i : Int} (h : (Tr.br c (.br (decide (i = 0)) (.ret x) (.br (decide (i = 1)) (.ret y) .fail)) .fail).Has v) : c = true ∧ ((i = 0 ∧ v = x) ∨ (i = 1 ∧ v = y)) := by
  obtain ⟨h1, h2⟩ := has_br h
  refine ⟨h1, ?_⟩
  by_cases c0 : i = 0
  · exact .inl ⟨c0, (has_ret (h2.1 (decide_eq_true c0))).symm⟩
  · have h3 := h2.2 (decide_eq_false c0)
    obtain ⟨h4, h5⟩ := has_br h3
    exact .inr ⟨of_decide_eq_true h4, (has_ret h5).symm⟩
theorem ok_atE : FnOk Itp Try.prog 70 spAtE := fnOk S17 hm Try.func70 spAtE fun args v hv => by
  unfold spAtE at hv
  split at hv
  · rename_i o n a p m b i
    obtain ⟨h, hw⟩ := has_two hv
    clear hv
    simp only [Bool.and_eq_true, isNum_iff] at h
    obtain ⟨⟨rfl, rfl⟩, rfl, rfl⟩ := h
    rcases hw with ⟨rfl, rfl⟩ | ⟨rfl, rfl⟩
    · exact at0_ev a b
    · exact at1_ev a b
  · exact hv.elim
theorem T1 : SpecOk Itp Try.prog (fromList H1) := specOk_cons (en _ _ Try.func47) ok_nwrap <| specOk_cons (en _ _ Try.func37) ok_num <| specOk_cons (en _ _ Try.func70) ok_atE S17
theorem ok_evn : FnOk Itp Try.prog 69 spEvN := fnOk T1 hm Try.func69 spEvN fun args v hv => by
  unfold spEvN at hv
  split at hv
  · rename_i o n a
    obtain ⟨h, hv⟩ := has_br hv
    have hv := has_ret hv
    subst hv
    obtain ⟨rfl, rfl⟩ := isNum_iff.1 h
    exact evn_ev a
  · exact hv.elim
theorem T2 : SpecOk Itp Try.prog (fromList H2) := specOk_cons (en _ _ Try.func69) ok_evn T1
theorem ok_h1 : FnOk Itp Try.prog 68 spH1 := fnOk T2 hm Try.func68 spH1 fun args v hv => by
  unfold spH1 at hv
  split at hv
  · rename_i i op o n a p m b
    obtain ⟨h, hw⟩ := has_two hv
    clear hv
    simp only [Bool.and_eq_true, isNum_iff] at h
    obtain ⟨⟨rfl, rfl⟩, rfl, rfl⟩ := h
    rcases hw with ⟨rfl, rfl⟩ | ⟨rfl, rfl⟩
    · exact h10_ev op a b
    · exact h11_ev op a b
  · exact hv.elim
theorem T3 : SpecOk Itp Try.prog (fromList H3) := specOk_cons (en _ _ Try.func68) ok_h1 T2
theorem ok_holds : FnOk Itp Try.prog 36 spHolds := fnOk T3 hm Try.func36 spHolds fun args v hv => by
  unfold spHolds at hv
  split at hv
  · rename_i op o n a p m b
    obtain ⟨h, hv⟩ := has_br hv
    have hv := has_ret hv
    subst hv
    simp only [Bool.and_eq_true, isNum_iff, decide_eq_true_eq] at h
    obtain ⟨⟨rfl, rfl⟩, ⟨rfl, rfl⟩, h1, h2⟩ := h
    have hop : op = 2 ∨ op = 3 ∨ op = 4 := by omega
    rcases hop with rfl | rfl | rfl
    · exact (holds2_ev a b).trans (by simp [cmpF])
    · exact (holds3_ev a b).trans (by simp [cmpF])
    · exact (holds4_ev a b).trans (by simp only [cmpF]; rw [if_neg (by decide), if_neg (by decide)]; congr 2)
  · exact hv.elim
theorem T4 : SpecOk Itp Try.prog (fromList H4) := specOk_cons (en _ _ Try.func36) ok_holds T3
theorem shape10 {hp : Hp Tok} {s : List (Option Nat)} (h : shapeOk hp (some 10 :: s) = true) : ∃ x0 x1 x2 x3 x4 x5 x6 x7 x8 x9 r, hp = some [iA x0, iA x1, iA x2, iA x3, iA x4, iA x5, iA x6, iA x7, iA x8, iA x9] :: r ∧ shapeOk r s = true := by
  obtain ⟨xs, r, rfl, q0, h2⟩ := shape_some h
  obtain ⟨x0, r0, e0, q1⟩ := ints_succ q0
  obtain ⟨x1, r1, e1, q2⟩ := ints_succ q1
  obtain ⟨x2, r2, e2, q3⟩ := ints_succ q2
  obtain ⟨x3, r3, e3, q4⟩ := ints_succ q3
  obtain ⟨x4, r4, e4, q5⟩ := ints_succ q4
  obtain ⟨x5, r5, e5, q6⟩ := ints_succ q5
  obtain ⟨x6, r6, e6, q7⟩ := ints_succ q6
  obtain ⟨x7, r7, e7, q8⟩ := ints_succ q7
  obtain ⟨x8, r8, e8, q9⟩ := ints_succ q8
  obtain ⟨x9, r9, e9, q10⟩ := ints_succ q9
  have e10 := ints_zero q10
  subst e10 e9 e8 e7 e6 e5 e4 e3 e2 e1 e0
  exact ⟨_, _, _, _, _, _, _, _, _, _, _, rfl, h2⟩
def rfK : Nat → List Nat
  | 7 => [7, 8, 9, 10, 11]
  | 1007 => [7]
  | 2011 => [1]
  | 2014 => [1]
  | _ => []
def shRf : List (Option Nat) := [some 4, some 4, some 4, none, none, none, none, none, none, some 10, none, none, none, none, none, none, none, none, none, none, none, none, none, none, none, some 2, some 2, none, none]
theorem shRf_inv {hp : Hp Tok} (h : shapeOk hp shRf = true) : ∃ x0_0 x0_1 x0_2 x0_3 x1_0 x1_1 x1_2 x1_3 x2_0 x2_1 x2_2 x2_3 x9_0 x9_1 x9_2 x9_3 x9_4 x9_5 x9_6 x9_7 x9_8 x9_9 x25_0 x25_1 x26_0 x26_1, hp = [some [.int .i64 x0_0, .int .i64 x0_1, .int .i64 x0_2, .int .i64 x0_3], some [.int .i64 x1_0, .int .i64 x1_1, .int .i64 x1_2, .int .i64 x1_3], some [.int .i64 x2_0, .int .i64 x2_1, .int .i64 x2_2, .int .i64 x2_3], none, none, none, none, none, none, some [.int .i64 x9_0, .int .i64 x9_1, .int .i64 x9_2, .int .i64 x9_3, .int .i64 x9_4, .int .i64 x9_5, .int .i64 x9_6, .int .i64 x9_7, .int .i64 x9_8, .int .i64 x9_9], none, none, none, none, none, none, none, none, none, none, none, none, none, none, none, some [.int .i64 x25_0, .int .i64 x25_1], some [.int .i64 x26_0, .int .i64 x26_1], none, none] := by
  unfold shRf at h
  obtain ⟨x0_0, x0_1, x0_2, x0_3, hp0, g0, k0⟩ := shape4 h
  obtain ⟨x1_0, x1_1, x1_2, x1_3, hp1, g1, k1⟩ := shape4 k0
  obtain ⟨x2_0, x2_1, x2_2, x2_3, hp2, g2, k2⟩ := shape4 k1
  obtain ⟨hp3, g3, k3⟩ := shape_none k2
  obtain ⟨hp4, g4, k4⟩ := shape_none k3
  obtain ⟨hp5, g5, k5⟩ := shape_none k4
  obtain ⟨hp6, g6, k6⟩ := shape_none k5
  obtain ⟨hp7, g7, k7⟩ := shape_none k6
  obtain ⟨hp8, g8, k8⟩ := shape_none k7
  obtain ⟨x9_0, x9_1, x9_2, x9_3, x9_4, x9_5, x9_6, x9_7, x9_8, x9_9, hp9, g9, k9⟩ := shape10 k8
  obtain ⟨hp10, g10, k10⟩ := shape_none k9
  obtain ⟨hp11, g11, k11⟩ := shape_none k10
  obtain ⟨hp12, g12, k12⟩ := shape_none k11
  obtain ⟨hp13, g13, k13⟩ := shape_none k12
  obtain ⟨hp14, g14, k14⟩ := shape_none k13
  obtain ⟨hp15, g15, k15⟩ := shape_none k14
  obtain ⟨hp16, g16, k16⟩ := shape_none k15
  obtain ⟨hp17, g17, k17⟩ := shape_none k16
  obtain ⟨hp18, g18, k18⟩ := shape_none k17
  obtain ⟨hp19, g19, k19⟩ := shape_none k18
  obtain ⟨hp20, g20, k20⟩ := shape_none k19
  obtain ⟨hp21, g21, k21⟩ := shape_none k20
  obtain ⟨hp22, g22, k22⟩ := shape_none k21
  obtain ⟨hp23, g23, k23⟩ := shape_none k22
  obtain ⟨hp24, g24, k24⟩ := shape_none k23
  obtain ⟨x25_0, x25_1, hp25, g25, k25⟩ := shape2 k24
  obtain ⟨x26_0, x26_1, hp26, g26, k26⟩ := shape2 k25
  obtain ⟨hp27, g27, k27⟩ := shape_none k26
  obtain ⟨hp28, g28, k28⟩ := shape_none k27
  have gz := shape_nil k28
  subst gz g28 g27 g26 g25 g24 g23 g22 g21 g20 g19 g18 g17 g16 g15 g14 g13 g12 g11 g10 g9 g8 g7 g6 g5 g4 g3 g2 g1 g0
  exact ⟨_, _, _, _, _, _, _, _, _, _, _, _, _, _, _, _, _, _, _, _, _, _, _, _, _, _, rfl⟩
def okRfs (op : Int) (a b : Abs) (v k w l : Int) : Bool := decide (2 ≤ op ∧ op ≤ 5) && (validF a && (validF b && (hasF a v k && (hasF b w l && (okM k && okM l)))))
def rl7 (vals : List V) (hp : Hp Tok) : Tr (Lf Tok) :=
  match vals with
  | [.bool true, .ref 9 0, .ref 25 0, .ref 26 0, .int .i64 op] =>
    match slot hp 9, slot hp 25, slot hp 26 with
    | some [.int .i64 a0, .int .i64 a1, .int .i64 a2, .int .i64 a3, .int .i64 a4, .int .i64 b0, .int .i64 b1, .int .i64 b2, .int .i64 b3, .int .i64 b4], some [.int .i64 v0, .int .i64 v1], some [.int .i64 w0, .int .i64 w1] =>
      .br (shapeOk hp shRf && okRfs op ⟨a0, a1, a2, a3, a4⟩ ⟨b0, b1, b2, b3, b4⟩ v0 v1 w0 w1) (.ret (.exit 0, [.bool true], hp)) .fail
    | _, _, _ => .fail
  | _ => .fail
def rlsp : Nat → List V → Hp Tok → Tr (Lf Tok)
  | 7 => rl7
  | _ => noLoops 0
end Go.Proofs.Ytamfgbenceoleaa.Span
/-! The law SpanRefines. -/
namespace Go.Proofs.Ytamfgbenceoleaa.Span
set_option linter.unusedVariables false
set_option linter.unusedSimpArgs false
set_option linter.unusedSectionVars false
set_option linter.unnecessarySimpa false
open Go.Proofs.Ytamfgbenceoleaa.Ev Go.RowKit
set_option maxRecDepth 100000
set_option maxHeartbeats 4000000
theorem refines_turn (op x0 x1 x2 x3 y0 y1 y2 y3 n0 n1 n2 n3 a0 a1 a2 a3 a4 b0 b1 b2 b3 b4 v0 v1 w0 w1 : Int) (F : List V → Hp Tok → Option (Lf Tok)) : evTurn Itp Try.prog (fromList H4) rfK rlsp Try.f8 7 29 F [.bool true, .ref 9 0, .ref 25 0, .ref 26 0, iA op] [some [.int .i64 x0, .int .i64 x1, .int .i64 x2, .int .i64 x3], some [.int .i64 y0, .int .i64 y1, .int .i64 y2, .int .i64 y3], some [.int .i64 n0, .int .i64 n1, .int .i64 n2, .int .i64 n3], none, none, none, none, none, none, some [.int .i64 a0, .int .i64 a1, .int .i64 a2, .int .i64 a3, .int .i64 a4, .int .i64 b0, .int .i64 b1, .int .i64 b2, .int .i64 b3, .int .i64 b4], none, none, none, none, none, none, none, none, none, none, none, none, none, none, none, some [.int .i64 v0, .int .i64 v1], some [.int .i64 w0, .int .i64 w1], none, none] =
    bif decide (op ≤ 4) then bif decide (2 ≤ op ∧ op ≤ 4) then bif validF { lo := a0, hi := a1, m := a2, r := a3, mask := a4 } && validF { lo := b0, hi := b1, m := b2, r := b3, mask := b4 } then bif validF (refT op (cmpF op (w32 v0) (w32 w0)) { lo := a0, hi := a1, m := a2, r := a3, mask := a4 } { lo := b0, hi := b1, m := b2, r := b3, mask := b4 }).x && (okN v0 && okM v1) || !!!(refT op (cmpF op (w32 v0) (w32 w0)) { lo := a0, hi := a1, m := a2, r := a3, mask := a4 } { lo := b0, hi := b1, m := b2, r := b3, mask := b4 }).is then bif validF (refT op (cmpF op (w32 v0) (w32 w0)) { lo := a0, hi := a1, m := a2, r := a3, mask := a4 } { lo := b0, hi := b1, m := b2, r := b3, mask := b4 }).y && (okN w0 && okM w1) || !!bif !(refT op (cmpF op (w32 v0) (w32 w0)) { lo := a0, hi := a1, m := a2, r := a3, mask := a4 } { lo := b0, hi := b1, m := b2, r := b3, mask := b4 }).is then true else !hasF (refT op (cmpF op (w32 v0) (w32 w0)) { lo := a0, hi := a1, m := a2, r := a3, mask := a4 } { lo := b0, hi := b1, m := b2, r := b3, mask := b4 }).x v0 v1 then bif validF (refT op (cmpF op (w32 v0) (w32 w0)) { lo := a0, hi := a1, m := a2, r := a3, mask := a4 } { lo := b0, hi := b1, m := b2, r := b3, mask := b4 }).x && validF { lo := a0, hi := a1, m := a2, r := a3, mask := a4 } || !!bif bif !(refT op (cmpF op (w32 v0) (w32 w0)) { lo := a0, hi := a1, m := a2, r := a3, mask := a4 } { lo := b0, hi := b1, m := b2, r := b3, mask := b4 }).is then true else !hasF (refT op (cmpF op (w32 v0) (w32 w0)) { lo := a0, hi := a1, m := a2, r := a3, mask := a4 } { lo := b0, hi := b1, m := b2, r := b3, mask := b4 }).x v0 v1 then true else !hasF (refT op (cmpF op (w32 v0) (w32 w0)) { lo := a0, hi := a1, m := a2, r := a3, mask := a4 } { lo := b0, hi := b1, m := b2, r := b3, mask := b4 }).y w0 w1 then bif validF (refT op (cmpF op (w32 v0) (w32 w0)) { lo := a0, hi := a1, m := a2, r := a3, mask := a4 } { lo := b0, hi := b1, m := b2, r := b3, mask := b4 }).y && validF { lo := b0, hi := b1, m := b2, r := b3, mask := b4 } || !!bif bif bif !(refT op (cmpF op (w32 v0) (w32 w0)) { lo := a0, hi := a1, m := a2, r := a3, mask := a4 } { lo := b0, hi := b1, m := b2, r := b3, mask := b4 }).is then true else !hasF (refT op (cmpF op (w32 v0) (w32 w0)) { lo := a0, hi := a1, m := a2, r := a3, mask := a4 } { lo := b0, hi := b1, m := b2, r := b3, mask := b4 }).x v0 v1 then true else !hasF (refT op (cmpF op (w32 v0) (w32 w0)) { lo := a0, hi := a1, m := a2, r := a3, mask := a4 } { lo := b0, hi := b1, m := b2, r := b3, mask := b4 }).y w0 w1 then true else !leqF (refT op (cmpF op (w32 v0) (w32 w0)) { lo := a0, hi := a1, m := a2, r := a3, mask := a4 } { lo := b0, hi := b1, m := b2, r := b3, mask := b4 }).x { lo := a0, hi := a1, m := a2, r := a3, mask := a4 } then bif bif bif bif bif bif bif !(refT op (cmpF op (w32 v0) (w32 w0)) { lo := a0, hi := a1, m := a2, r := a3, mask := a4 } { lo := b0, hi := b1, m := b2, r := b3, mask := b4 }).is then true else !hasF (refT op (cmpF op (w32 v0) (w32 w0)) { lo := a0, hi := a1, m := a2, r := a3, mask := a4 } { lo := b0, hi := b1, m := b2, r := b3, mask := b4 }).x v0 v1 then true else !hasF (refT op (cmpF op (w32 v0) (w32 w0)) { lo := a0, hi := a1, m := a2, r := a3, mask := a4 } { lo := b0, hi := b1, m := b2, r := b3, mask := b4 }).y w0 w1 then true else !leqF (refT op (cmpF op (w32 v0) (w32 w0)) { lo := a0, hi := a1, m := a2, r := a3, mask := a4 } { lo := b0, hi := b1, m := b2, r := b3, mask := b4 }).x { lo := a0, hi := a1, m := a2, r := a3, mask := a4 } then true else !leqF (refT op (cmpF op (w32 v0) (w32 w0)) { lo := a0, hi := a1, m := a2, r := a3, mask := a4 } { lo := b0, hi := b1, m := b2, r := b3, mask := b4 }).y { lo := b0, hi := b1, m := b2, r := b3, mask := b4 } then true else !validF (refT op (cmpF op (w32 v0) (w32 w0)) { lo := a0, hi := a1, m := a2, r := a3, mask := a4 } { lo := b0, hi := b1, m := b2, r := b3, mask := b4 }).x then true else !validF (refT op (cmpF op (w32 v0) (w32 w0)) { lo := a0, hi := a1, m := a2, r := a3, mask := a4 } { lo := b0, hi := b1, m := b2, r := b3, mask := b4 }).y then some (X.ret, [AV.bool true], [some [AV.int IntKind.i64 x0, AV.int IntKind.i64 x1, AV.int IntKind.i64 x2, AV.int IntKind.i64 x3], some [AV.int IntKind.i64 y0, AV.int IntKind.i64 y1, AV.int IntKind.i64 y2, AV.int IntKind.i64 y3], some [AV.int IntKind.i64 n0, AV.int IntKind.i64 n1, AV.int IntKind.i64 n2, AV.int IntKind.i64 n3], none, none, none, none, none, none, some [AV.int IntKind.i64 a0, AV.int IntKind.i64 a1, AV.int IntKind.i64 a2, AV.int IntKind.i64 a3, AV.int IntKind.i64 a4, AV.int IntKind.i64 b0, AV.int IntKind.i64 b1, AV.int IntKind.i64 b2, AV.int IntKind.i64 b3, AV.int IntKind.i64 b4], none, none, none, none, none, none, none, none, none, none, none, none, none, none, none, some [AV.int IntKind.i64 v0, AV.int IntKind.i64 v1], some [AV.int IntKind.i64 w0, AV.int IntKind.i64 w1], none, none]) else bif validF { lo := a0, hi := a1, m := a2, r := a3, mask := a4 } && validF { lo := b0, hi := b1, m := b2, r := b3, mask := b4 } then bif validF (refT op (!cmpF op (w32 v0) (w32 w0)) { lo := a0, hi := a1, m := a2, r := a3, mask := a4 } { lo := b0, hi := b1, m := b2, r := b3, mask := b4 }).x && validF { lo := a0, hi := a1, m := a2, r := a3, mask := a4 } || !(refT op (!cmpF op (w32 v0) (w32 w0)) { lo := a0, hi := a1, m := a2, r := a3, mask := a4 } { lo := b0, hi := b1, m := b2, r := b3, mask := b4 }).is then bif validF (refT op (!cmpF op (w32 v0) (w32 w0)) { lo := a0, hi := a1, m := a2, r := a3, mask := a4 } { lo := b0, hi := b1, m := b2, r := b3, mask := b4 }).y && validF { lo := b0, hi := b1, m := b2, r := b3, mask := b4 } || !((refT op (!cmpF op (w32 v0) (w32 w0)) { lo := a0, hi := a1, m := a2, r := a3, mask := a4 } { lo := b0, hi := b1, m := b2, r := b3, mask := b4 }).is && !!leqF (refT op (!cmpF op (w32 v0) (w32 w0)) { lo := a0, hi := a1, m := a2, r := a3, mask := a4 } { lo := b0, hi := b1, m := b2, r := b3, mask := b4 }).x { lo := a0, hi := a1, m := a2, r := a3, mask := a4 }) then bif bif (refT op (!cmpF op (w32 v0) (w32 w0)) { lo := a0, hi := a1, m := a2, r := a3, mask := a4 } { lo := b0, hi := b1, m := b2, r := b3, mask := b4 }).is then bif !leqF (refT op (!cmpF op (w32 v0) (w32 w0)) { lo := a0, hi := a1, m := a2, r := a3, mask := a4 } { lo := b0, hi := b1, m := b2, r := b3, mask := b4 }).x { lo := a0, hi := a1, m := a2, r := a3, mask := a4 } then true else !leqF (refT op (!cmpF op (w32 v0) (w32 w0)) { lo := a0, hi := a1, m := a2, r := a3, mask := a4 } { lo := b0, hi := b1, m := b2, r := b3, mask := b4 }).y { lo := b0, hi := b1, m := b2, r := b3, mask := b4 } else false then some (X.ret, [AV.bool true], [some [AV.int IntKind.i64 x0, AV.int IntKind.i64 x1, AV.int IntKind.i64 x2, AV.int IntKind.i64 x3], some [AV.int IntKind.i64 y0, AV.int IntKind.i64 y1, AV.int IntKind.i64 y2, AV.int IntKind.i64 y3], some [AV.int IntKind.i64 n0, AV.int IntKind.i64 n1, AV.int IntKind.i64 n2, AV.int IntKind.i64 n3], none, none, none, none, none, none, some [AV.int IntKind.i64 a0, AV.int IntKind.i64 a1, AV.int IntKind.i64 a2, AV.int IntKind.i64 a3, AV.int IntKind.i64 a4, AV.int IntKind.i64 b0, AV.int IntKind.i64 b1, AV.int IntKind.i64 b2, AV.int IntKind.i64 b3, AV.int IntKind.i64 b4], none, none, none, none, none, none, none, none, none, none, none, none, none, none, none, some [AV.int IntKind.i64 v0, AV.int IntKind.i64 v1], some [AV.int IntKind.i64 w0, AV.int IntKind.i64 w1], none, none]) else F [AV.bool true, AV.ref 9 0, AV.ref 25 0, AV.ref 26 0, AV.int IntKind.i64 (IntKind.i64.wrap (op + 1))] [some [AV.int IntKind.i64 x0, AV.int IntKind.i64 x1, AV.int IntKind.i64 x2, AV.int IntKind.i64 x3], some [AV.int IntKind.i64 y0, AV.int IntKind.i64 y1, AV.int IntKind.i64 y2, AV.int IntKind.i64 y3], some [AV.int IntKind.i64 n0, AV.int IntKind.i64 n1, AV.int IntKind.i64 n2, AV.int IntKind.i64 n3], none, none, none, none, none, none, some [AV.int IntKind.i64 a0, AV.int IntKind.i64 a1, AV.int IntKind.i64 a2, AV.int IntKind.i64 a3, AV.int IntKind.i64 a4, AV.int IntKind.i64 b0, AV.int IntKind.i64 b1, AV.int IntKind.i64 b2, AV.int IntKind.i64 b3, AV.int IntKind.i64 b4], none, none, none, none, none, none, none, none, none, none, none, none, none, none, none, some [AV.int IntKind.i64 v0, AV.int IntKind.i64 v1], some [AV.int IntKind.i64 w0, AV.int IntKind.i64 w1], none, none] else none else none else none else none else none else none else none else none else none else some (X.exit 0, [AV.bool true], [some [AV.int IntKind.i64 x0, AV.int IntKind.i64 x1, AV.int IntKind.i64 x2, AV.int IntKind.i64 x3], some [AV.int IntKind.i64 y0, AV.int IntKind.i64 y1, AV.int IntKind.i64 y2, AV.int IntKind.i64 y3], some [AV.int IntKind.i64 n0, AV.int IntKind.i64 n1, AV.int IntKind.i64 n2, AV.int IntKind.i64 n3], none, none, none, none, none, none, some [AV.int IntKind.i64 a0, AV.int IntKind.i64 a1, AV.int IntKind.i64 a2, AV.int IntKind.i64 a3, AV.int IntKind.i64 a4, AV.int IntKind.i64 b0, AV.int IntKind.i64 b1, AV.int IntKind.i64 b2, AV.int IntKind.i64 b3, AV.int IntKind.i64 b4], none, none, none, none, none, none, none, none, none, none, none, none, none, none, none, some [AV.int IntKind.i64 v0, AV.int IntKind.i64 v1], some [AV.int IntKind.i64 w0, AV.int IntKind.i64 w1], none, none]) := by
  kernel_rfl
theorem refines_ev (x0 x1 x2 x3 y0 y1 y2 y3 n0 n1 n2 n3 : Int) : evFn Itp Try.prog (fromList H4) rfK rlsp Try.f8 [.agg [.int .i64 x0, .int .i64 x1, .int .i64 x2, .int .i64 x3], .agg [.int .i64 y0, .int .i64 y1, .int .i64 y2, .int .i64 y3], .agg [.int .i64 n0, .int .i64 n1, .int .i64 n2, .int .i64 n3]] some =
    bif validF (madeF x0 x1 x2 x3) then bif validF (madeF y0 y1 y2 y3) then bif okRfs 2 (madeF x0 x1 x2 x3) (madeF y0 y1 y2 y3) (atV (madeF x0 x1 x2 x3) n0) (andW n1 (madeF x0 x1 x2 x3).mask) (atV (madeF y0 y1 y2 y3) n2) (andW n3 (madeF y0 y1 y2 y3).mask) then some (AV.bool true) else none else none else none := by
  kernel_rfl
theorem okRfs_iff {op v k w l : Int} {a b : Abs} : okRfs op a b v k w l = true ↔ (2 ≤ op ∧ op ≤ 5) ∧ VA a ∧ VA b ∧ hasF a v k = true ∧ hasF b w l = true ∧ (0 ≤ k ∧ k ≤ 255) ∧ (0 ≤ l ∧ l ≤ 255) := by
  simp only [okRfs, Bool.and_eq_true, decide_eq_true_eq, validF_iff, okM_iff]
theorem rl7_key (x0 x1 x2 x3 y0 y1 y2 y3 n0 n1 n2 n3 a0 a1 a2 a3 a4 b0 b1 b2 b3 b4 v0 v1 w0 w1 : Int) : ∀ (k : Nat) (op : Int), okRfs op ⟨a0, a1, a2, a3, a4⟩ ⟨b0, b1, b2, b3, b4⟩ v0 v1 w0 w1 = true → (5 - op).toNat < k →
    ∃ n, evBody Itp Try.prog (fromList H4) rfK rlsp Try.f8 7 29 n [.bool true, .ref 9 0, .ref 25 0, .ref 26 0, .int .i64 op] [some [.int .i64 x0, .int .i64 x1, .int .i64 x2, .int .i64 x3], some [.int .i64 y0, .int .i64 y1, .int .i64 y2, .int .i64 y3], some [.int .i64 n0, .int .i64 n1, .int .i64 n2, .int .i64 n3], none, none, none, none, none, none, some [.int .i64 a0, .int .i64 a1, .int .i64 a2, .int .i64 a3, .int .i64 a4, .int .i64 b0, .int .i64 b1, .int .i64 b2, .int .i64 b3, .int .i64 b4], none, none, none, none, none, none, none, none, none, none, none, none, none, none, none, some [.int .i64 v0, .int .i64 v1], some [.int .i64 w0, .int .i64 w1], none, none] = some (.exit 0, [.bool true], [some [.int .i64 x0, .int .i64 x1, .int .i64 x2, .int .i64 x3], some [.int .i64 y0, .int .i64 y1, .int .i64 y2, .int .i64 y3], some [.int .i64 n0, .int .i64 n1, .int .i64 n2, .int .i64 n3], none, none, none, none, none, none, some [.int .i64 a0, .int .i64 a1, .int .i64 a2, .int .i64 a3, .int .i64 a4, .int .i64 b0, .int .i64 b1, .int .i64 b2, .int .i64 b3, .int .i64 b4], none, none, none, none, none, none, none, none, none, none, none, none, none, none, none, some [.int .i64 v0, .int .i64 v1], some [.int .i64 w0, .int .i64 w1], none, none]) := by
  intro k
  induction k with
  | zero => intro op _ hlt; exact absurd hlt (Nat.not_lt_zero _)
  | succ k ih =>
    intro op h hlt
    obtain ⟨ho, hA, hB, hv, hw, hk, hl⟩ := okRfs_iff.1 h
    by_cases c : op ≤ 4
    · obtain ⟨n, hn⟩ := ih (op + 1) (okRfs_iff.2 ⟨by omega, hA, hB, hv, hw, hk, hl⟩) (by omega)
      refine ⟨n + 1, ?_⟩
      rw [evBody_succ]
      refine (refines_turn op x0 x1 x2 x3 y0 y1 y2 y3 n0 n1 n2 n3 a0 a1 a2 a3 a4 b0 b1 b2 b3 b4 v0 v1 w0 w1 _).trans ?_
      obtain ⟨hv1, hv2⟩ := hasF_iff.1 hv
      obtain ⟨hw1, hw2⟩ := hasF_iff.1 hw
      have rv := range_in hA hv1
      have rw' := range_in hB hw1
      obtain ⟨k1, k2, k3⟩ := ref_keeps hA hB (op := op) ⟨ho.1, c⟩ hv1 hw1
      rw [w32_of rv.1 rv.2, w32_of rw'.1 rw'.2]
      have hL := ref_left hA hB k1
      have hO := fun h => ref_left (op := op) (h := !cmpF op v0 w0) hA hB h
      have e0 : decide (2 ≤ op ∧ op ≤ 4) = true := decide_eq_true ⟨ho.1, c⟩
      have e1 : validF ⟨a0, a1, a2, a3, a4⟩ = true := validF_iff.2 hA
      have e2 : validF ⟨b0, b1, b2, b3, b4⟩ = true := validF_iff.2 hB
      have e3 : okN v0 = true := okN_iff.2 (by omega)
      have e4 : okN w0 = true := okN_iff.2 (by omega)
      have e5 : okM v1 = true := okM_iff.2 hk
      have e6 : okM w1 = true := okM_iff.2 hl
      have e7 : IntKind.i64.wrap (op + 1) = op + 1 := wrap_of (by omega) (by omega)
      have f1 : validF (refT op (cmpF op v0 w0) ⟨a0, a1, a2, a3, a4⟩ ⟨b0, b1, b2, b3, b4⟩).x = true := validF_iff.2 hL.vx
      have f2 : validF (refT op (cmpF op v0 w0) ⟨a0, a1, a2, a3, a4⟩ ⟨b0, b1, b2, b3, b4⟩).y = true := validF_iff.2 hL.vy
      have f3 : hasF (refT op (cmpF op v0 w0) ⟨a0, a1, a2, a3, a4⟩ ⟨b0, b1, b2, b3, b4⟩).x v0 v1 = true := hasF_iff.2 ⟨k2, by rw [hL.mx]; exact hv2⟩
      have f4 : hasF (refT op (cmpF op v0 w0) ⟨a0, a1, a2, a3, a4⟩ ⟨b0, b1, b2, b3, b4⟩).y w0 w1 = true := hasF_iff.2 ⟨k3, by rw [hL.my]; exact hw2⟩
      have f5 := hL.lx
      have f6 := hL.ly
      simp only [c, ho.1, and_self, decide_true, cond_true, e1, e2, e3, e4, e5, e6, e7, f1, f2, f3, f4, f5, f6, k1, Bool.not_true, cond_false, Bool.and_self, Bool.true_or]
      cases hi : (refT op (!cmpF op v0 w0) ⟨a0, a1, a2, a3, a4⟩ ⟨b0, b1, b2, b3, b4⟩).is with
      | true =>
        have hO := hO hi
        have g1 : validF (refT op (!cmpF op v0 w0) ⟨a0, a1, a2, a3, a4⟩ ⟨b0, b1, b2, b3, b4⟩).x = true := validF_iff.2 hO.vx
        have g2 : validF (refT op (!cmpF op v0 w0) ⟨a0, a1, a2, a3, a4⟩ ⟨b0, b1, b2, b3, b4⟩).y = true := validF_iff.2 hO.vy
        have g3 := hO.lx
        have g4 := hO.ly
        simp only [g1, g2, g3, g4, cond_true, cond_false, Bool.and_self, Bool.true_or, Bool.not_true]
        exact hn
      | false =>
        simp only [Bool.not_false, Bool.or_true, Bool.false_and, cond_true, cond_false]
        exact hn
    · refine ⟨1, ?_⟩
      rw [evBody_succ]
      refine (refines_turn op x0 x1 x2 x3 y0 y1 y2 y3 n0 n1 n2 n3 a0 a1 a2 a3 a4 b0 b1 b2 b3 b4 v0 v1 w0 w1 _).trans ?_
      simp only [c, decide_false, cond_false]
theorem rl7_ok (vals : List V) (hp : Hp Tok) (l : Lf Tok) (hh : (rl7 vals hp).Has l) : ∃ n, evBody Itp Try.prog (fromList H4) rfK rlsp Try.f8 7 hp.length n vals hp = some l := by
  unfold rl7 at hh
  split at hh
  · rename_i op
    split at hh
    · rename_i a0 a1 a2 a3 a4 b0 b1 b2 b3 b4 v0 v1 w0 w1 h9 h25 h26
      obtain ⟨h, hv⟩ := has_br hh
      have hv := has_ret hv
      subst hv
      simp only [Bool.and_eq_true] at h
      obtain ⟨hsh, h⟩ := h
      obtain ⟨x0, x1, x2, x3, y0, y1, y2, y3, n0, n1, n2, n3, c0, c1, c2, c3, c4, d0, d1, d2, d3, d4, e0, e1, f0, f1, rfl⟩ := shRf_inv hsh
      have i9 := Option.some.inj h9
      have i25 := Option.some.inj h25
      have i26 := Option.some.inj h26
      simp only [iA, List.cons.injEq, AV.int.injEq, true_and, and_true] at i9 i25 i26
      obtain ⟨rfl, rfl, rfl, rfl, rfl, rfl, rfl, rfl, rfl, rfl⟩ := i9
      obtain ⟨rfl, rfl⟩ := i25
      obtain ⟨rfl, rfl⟩ := i26
      exact rl7_key x0 x1 x2 x3 y0 y1 y2 y3 n0 n1 n2 n3 _ _ _ _ _ _ _ _ _ _ _ _ _ _ _ op h (Nat.lt_succ_self _)
    · exact hh.elim
  · exact hh.elim
theorem rlsp_ok (id : Nat) (vals : List V) (hp : Hp Tok) (l : Lf Tok) (h : (rlsp id vals hp).Has l) : ∃ n, evBody Itp Try.prog (fromList H4) rfK rlsp Try.f8 id hp.length n vals hp = some l := by
  unfold rlsp at h
  split at h
  · exact rl7_ok vals hp l h
  · exact h.elim
/-- SpanRefines returns true. -/
theorem refines_calls (x0 x1 x2 x3 y0 y1 y2 y3 n0 n1 n2 n3 : Int) : CallOk Itp Try.prog 8 [.agg [.int .i64 x0, .int .i64 x1, .int .i64 x2, .int .i64 x3], .agg [.int .i64 y0, .int .i64 y1, .int .i64 y2, .int .i64 y3], .agg [.int .i64 n0, .int .i64 n1, .int .i64 n2, .int .i64 n3]] (.bool true) := by
  refine fn_sound (keep := rfK) (lsp := rlsp) T4 hm Try.func8 (fun c hc => loopOk_of hc (by rw [show c = (Try.f8.body).getD .skip by rw [hc]; rfl]; kernel_rfl) rlsp_ok) ?_
  refine (refines_ev x0 x1 x2 x3 y0 y1 y2 y3 n0 n1 n2 n3).trans ?_
  have hA := made_VA x0 x1 x2 x3
  have hB := made_VA y0 y1 y2 y3
  have e1 : validF (madeF x0 x1 x2 x3) = true := validF_iff.2 hA
  have e2 : validF (madeF y0 y1 y2 y3) = true := validF_iff.2 hB
  have e3 := andW_range n1 hA.2.2.2.1 hA.2.2.2.2.1
  have e4 := andW_range n3 hB.2.2.2.1 hB.2.2.2.2.1
  have e7 : okRfs 2 (madeF x0 x1 x2 x3) (madeF y0 y1 y2 y3) (atV (madeF x0 x1 x2 x3) n0) (andW n1 (madeF x0 x1 x2 x3).mask) (atV (madeF y0 y1 y2 y3) n2) (andW n3 (madeF y0 y1 y2 y3).mask) = true :=
    okRfs_iff.2 ⟨by omega, hA, hB, at_has hA n0 n1, at_has hB n2 n3, ⟨e3.1, e3.2.1⟩, ⟨e4.1, e4.2.1⟩⟩
  simp only [e1, e2, e7, cond_true]
end Go.Proofs.Ytamfgbenceoleaa.Span
