import Derived.Test.YtamfgbenceoleaaEv10
namespace Go.Proofs.Ytamfgbenceoleaa.Ev
set_option linter.unusedVariables false
set_option linter.unusedSimpArgs false
set_option linter.unusedSectionVars false
set_option linter.unnecessarySimpa false
open Go.RowKit
section
variable {T : Type} {I : Interp T} {P : Program}
variable {W0 : World} {M0 : Nat → Prop} {w : World} {hp hp' : Hp T} {e : Nat → Option Nat}
variable {spec : FuncId → List (AV T) → Tr (AV T)} {allowed : Nat → Bool} {nid : Nat} {o : Oper} {env : List (AV T)} {a : Act} {v : AV T}
/-- Elements of sz cells each, laid one behind the other. -/
def RepLL (I : Interp T) (w : World) (M : Nat → Prop) (e : Nat → Option Nat) (sz : Nat) (xs : List (List (AV T))) (ds : Array Value) : Prop :=
  ds.size = xs.length * sz ∧ (∀ (i : Nat) y, xs[i]? = some y → y.length = sz) ∧ ∀ (i j : Nat) y x, xs[i]? = some y → y[j]? = some x → ∃ v, ds[i * sz + j]? = some v ∧ Rep I w M e x v
theorem lay_get (off : Nat) : ∀ (us : List Value) (k : Nat) (c0 : Array Value) (q : Nat), off + k + us.length ≤ c0.size →
    (((us.zipIdx k).foldl (fun cs (p : Value × Nat) => cs.setIfInBounds (off + p.2) p.1) c0).size = c0.size) ∧
    ((us.zipIdx k).foldl (fun cs (p : Value × Nat) => cs.setIfInBounds (off + p.2) p.1) c0)[q]? = if off + k ≤ q ∧ q < off + k + us.length then us[q - (off + k)]? else c0[q]?
  | [], k, c0, q, _ => ⟨rfl, by simp only [List.zipIdx_nil, List.foldl_nil, List.length_nil]; rw [if_neg (by omega)]⟩
  | u :: us, k, c0, q, h => by
    simp only [List.length_cons] at h
    have ih := lay_get off us (k + 1) (c0.setIfInBounds (off + k) u) q (by simp; omega)
    simp only [List.zipIdx_cons, List.foldl_cons, List.length_cons]
    refine ⟨by rw [ih.1]; simp, ?_⟩
    rw [ih.2]
    by_cases h1 : off + (k + 1) ≤ q ∧ q < off + (k + 1) + us.length
    · rw [if_pos h1, if_pos (by omega), show q - (off + k) = (q - (off + (k + 1))) + 1 by omega]; simp
    · rw [if_neg h1]
      by_cases h2 : q = off + k
      · subst h2; rw [if_pos (by omega), Array.getElem?_setIfInBounds_self]; simp; omega
      · rw [if_neg (by omega), Array.getElem?_setIfInBounds_ne (by omega)]
theorem fillS_sound {M : Nat → Prop} {sz : Nat} : ∀ (parts : List (Nat × AV T)) (vparts : List (Nat × Value)) (xs : List (List (AV T))) (out : List (List (AV T))) (cs : Array Value), fillS xs parts = some out →
    parts.length = vparts.length → (∀ (j : Nat) p q, parts[j]? = some p → vparts[j]? = some q → p.1 = q.1 ∧ Rep I w M e p.2 q.2) → RepLL I w M e sz xs cs →
    ∃ ds, Instr.fill (fun i => some (i * sz, sz)) cs vparts = some ds ∧ RepLL I w M e sz out ds ∧ out.length = xs.length
  | [], vparts, xs, out, cs, h, hl, hp, hc => by
    cases vparts with
    | nil => simp only [fillS, Option.some.injEq] at h; subst h; exact ⟨cs, rfl, hc, rfl⟩
    | cons _ _ => simp at hl
  | (i, v) :: rest, vparts, xs, out, cs, h, hl, hp, hc => by
    cases vparts with
    | nil => simp at hl
    | cons q qs =>
      obtain ⟨i', u⟩ := q
      obtain ⟨hii, hr⟩ := hp 0 (i, v) (i', u) rfl rfl
      simp only at hii hr
      subst hii
      have hv : v ≠ .any := by rintro rfl; simp [fillS] at h
      unfold fillS at h
      have h' : ∃ old, xs[i]? = some old ∧ (bif Nat.beq v.cells.length old.length && AV.undL 0 v.cells then fillS (xs.set i v.cells) rest else none) = some out := by
        cases ho : xs[i]? with
        | none => simp only [ho] at h; cases v <;> cases h
        | some old => simp only [ho] at h; refine ⟨old, rfl, ?_⟩; cases v <;> first | exact absurd rfl hv | exact h
      obtain ⟨old, hold, h'⟩ := h'
      obtain ⟨hb, h'⟩ := cond_inv h'
      simp only [Bool.and_eq_true] at hb
      have h1 : v.cells.length = old.length := by simpa using hb.1
      have hlo := hc.2.1 i old hold
      have hi : i < xs.length := by rcases Nat.lt_or_ge i xs.length with h' | h'; exact h'; simp [List.getElem?_eq_none h'] at hold
      have hcr := cells_rep' hr hv
      have hlen : u.cells.size = sz := by have := hcr.1; simp at this; omega
      have hin : i * sz + sz ≤ cs.size := by rw [hc.1, show i * sz + sz = (i + 1) * sz by rw [Nat.add_mul, Nat.one_mul]]; exact Nat.mul_le_mul_right _ hi
      have hlay := fun q => lay_get (i * sz) u.cells.toList 0 cs q (by simp; omega)
      have hnew : RepLL I w M e sz (xs.set i v.cells) ((u.cells.toList.zipIdx 0).foldl (fun cs (p : Value × Nat) => cs.setIfInBounds (i * sz + p.2) p.1) cs) := by
        refine ⟨by rw [(hlay 0).1, hc.1]; simp, fun k y hy => ?_, fun k j y x hy hx => ?_⟩
        · rw [List.getElem?_set] at hy
          by_cases hk : i = k
          · subst hk; simp only [if_true, hi] at hy; obtain rfl := Option.some.inj hy; omega
          · rw [if_neg hk] at hy; exact hc.2.1 k y hy
        · rw [(hlay _).2]
          rw [List.getElem?_set] at hy
          by_cases hk : i = k
          · subst hk; simp only [if_true, hi] at hy; obtain rfl := Option.some.inj hy
            have hj : j < v.cells.length := by rcases Nat.lt_or_ge j v.cells.length with h' | h'; exact h'; simp [List.getElem?_eq_none h'] at hx
            obtain ⟨t, ht, hrt⟩ := hcr.get hx
            rw [if_pos (by simp; omega)]
            exact ⟨t, by rw [show i * sz + j - (i * sz + 0) = j by omega]; exact ht, hrt⟩
          · rw [if_neg hk] at hy
            have hyl := hc.2.1 k y hy
            have hj : j < y.length := by rcases Nat.lt_or_ge j y.length with h' | h'; exact h'; simp [List.getElem?_eq_none h'] at hx
            obtain ⟨t, ht, hrt⟩ := hc.2.2 k j y x hy hx
            refine ⟨t, ?_, hrt⟩
            rw [if_neg, ht]
            simp only [Array.length_toList]
            intro hcon
            rcases Nat.lt_or_gt_of_ne hk with hlt | hgt
            · have : (i + 1) * sz ≤ k * sz := Nat.mul_le_mul_right _ hlt
              rw [Nat.add_mul, Nat.one_mul] at this; omega
            · have : (k + 1) * sz ≤ i * sz := Nat.mul_le_mul_right _ hgt
              rw [Nat.add_mul, Nat.one_mul] at this; omega
      obtain ⟨ds, hds, hrd, hlo⟩ := fillS_sound rest qs _ out _ h' (by simpa using hl) (fun j p q hj hq => hp (j + 1) p q (by simpa using hj) (by simpa using hq)) hnew
      refine ⟨ds, ?_, hrd, by simpa using hlo⟩
      rw [Instr.fill]
      simp only
      rw [if_neg (by simp; omega)]
      rw [← hds, ← Array.foldl_toList, Array.toList_zipIdx]
theorem Inv.drew (h : Inv I W0 M0 w hp e) : Inv I W0 M0 { w with drawn := w.drawn + 1 } hp e ∧ Ext w (Mut M0 e) e { w with drawn := w.drawn + 1 } (Mut M0 e) e := h.below (Below.drew (Below.refl _ _))

theorem out_sound (hS : SpecOk I P spec) (h : Out I P spec allowed nid o env hp v hp') (hI : Inv I W0 M0 w hp e) (hE : RepL I w (Mut M0 e) e env a.tmps.toList) {next : Act → World → Prop} {Q : Exit → Act → World → Prop}
    (hK : ∀ u w' e', Inv I W0 M0 w' hp' e' → Ext w (Mut M0 e) e w' (Mut M0 e') e' → Rep I w' (Mut M0 e') e' v u → next (a.put o.dst u) w') : o.wp P a w next Q := by
  cases h with
  | pure _ hc hev =>
    obtain ⟨u, hu, hr⟩ := pure_sound (w := w) hE hev
    unfold Oper.wp; rw [hu]
    exact hK u w e hI (Ext.refl _ _ _) hr
  | pick c x y b ho hb =>
    have hc := (opd_rep hE c); rw [hb] at hc
    have ec := hc.bool_inv
    have : (execOp a.eval o).run P w = .ok (.value (if b = true then a.eval x else a.eval y)) w := by
      simp [execOp, ho, ec, asBool]
    unfold Oper.wp; rw [this]
    refine hK _ w e hI (Ext.refl _ _ _) ?_
    cases b
    · exact opd_rep hE y
    · exact opd_rep hE x
  | loadR t A id off xs _ ho ha hal hx hv =>
    have hA := opd_rep hE A; rw [ha] at hA
    obtain ⟨b, eA, hb⟩ := hA.ref_inv
    obtain ⟨b', vs, ty, h1, h2, h3⟩ := hI.box id xs hx
    rw [hb] at h1; cases h1
    obtain ⟨u, hu, hr⟩ := load_sound (P := P) (w := w) (b := b) (o := 0) hv (fun j y hy => by
      obtain ⟨t', ht', hrt⟩ := h3.get hy
      exact ⟨t', by rw [cell_of_row w b (0 + j) vs ty (0, 0) h2, Nat.zero_add]; simpa using ht', hrt⟩)
    have : (execOp a.eval o).run P w = .ok (.value u) w := by
      rw [Nat.zero_add] at hu
      simp [execOp, ho, eA, Instr.loadAt, Instr.sureAddr, hu]
    unfold Oper.wp; rw [this]
    exact hK u w e hI (Ext.refl _ _ _) hr
  | loadE t A xs off _ ho ha hv =>
    have hA := opd_rep hE A; rw [ha] at hA
    generalize eA : a.eval A = vA at hA
    cases hA with
    | elt _ _ b o' vs h1 h2 =>
      obtain ⟨u, hu, hr⟩ := load_sound (P := P) (w := w) (b := b) (o := o') hv (fun j y hy => ⟨vs j, (h1 j y hy).2, h2 j y hy⟩)
      have : (execOp a.eval o).run P w = .ok (.value u) w := by simp [execOp, ho, eA, Instr.loadAt, Instr.sureAddr, hu]
      unfold Oper.wp; rw [this]
      exact hK u w e hI (Ext.refl _ _ _) hr
  | store t A x id off n xs ho ha hs hal hx hn hle hone =>
    have hA := opd_rep hE A; rw [ha] at hA
    obtain ⟨b, eA, hb⟩ := hA.ref_inv
    obtain ⟨b', vs, ty, h1, h2, h3⟩ := hI.box id xs hx
    rw [hb] at h1; cases h1
    have hX := opd_rep hE x
    have hne : evOpd env x ≠ .any := by intro h0; rw [h0] at hone; simp [AV.cells, AV.one] at hone
    have hcr := cells_rep' hX hne
    have hsz : (a.eval x).cells.size = n := by have := hcr.1; simp at this; omega
    have hvl : xs.length = vs.size := by have := h3.1; simpa using this
    have h1c : ∀ q ∈ (a.eval x).cells.toList, q.oneCell' = true := by
      intro q hq
      obtain ⟨j, hj, rfl⟩ := List.getElem_of_mem hq
      have hj' : j < (evOpd env x).cells.length := by rw [hcr.1]; exact hj
      exact one_rep (hcr.2 j _ _ (List.getElem?_eq_getElem hj') (List.getElem?_eq_getElem hj)) (List.all_eq_true.1 hone _ (List.getElem_mem hj'))
    have hst := run_storeCells_at (P := P) b off ty (a.eval x).cells.toList 0 vs w h2 (by simp; omega) h1c
    have : (execOp a.eval o).run P w = .ok .skip (w.setRow b (vs.toList.take (off + 0) ++ (a.eval x).cells.toList ++ vs.toList.drop (off + 0 + (a.eval x).cells.toList.length)).toArray) := by
      simp only [execOp, ho, eA, Instr.storeAt, Instr.sureAddr, storeVar, Sem.run_bind, Sem.run_pure, Result.andThen_ok, run_size hs, hsz, ne_eq, not_true, if_false, hst]
    unfold Oper.wp; rw [this]
    have hset := setFrom_rep (off := off) h3 hcr (by omega)
    obtain ⟨hI', hx'⟩ := hI.store (vs' := (vs.toList.take (off + 0) ++ (a.eval x).cells.toList ++ vs.toList.drop (off + 0 + (a.eval x).cells.toList.length)).toArray) hx hb h2 (by simpa using hset)
    exact hK Go.undef _ e hI' hx' Rep.undef
  | alloc t z ho hz hne hn =>
    obtain ⟨u, it, hi, hzu, hzr⟩ := zeroAV_sound (I := I) (w := w) (M := Mut M0 e) (e := e) hz
    have : (execOp a.eval o).run P w = .ok (.value (.pointer (some ⟨w.heap.size, 0, none⟩))) (w.alloc (.cells u.cells t (0, 0))) := by
      simp [execOp, ho, Instr.alloc, zeroValue, typeInfo, hi, hzu, newVar, newRow]
    unfold Oper.wp; rw [this]
    obtain ⟨hI', hx'⟩ := hI.alloc hn t (cells_rep' hzr hne)
    exact hK _ _ _ hI' hx' (.ref _ _ _ (by simp [upd]))
  | box t x ho hne hn =>
    have hX := opd_rep hE x
    have : (execOp a.eval o).run P w = .ok (.value (.pointer (some ⟨w.heap.size, 0, none⟩))) (w.alloc (.cells (a.eval x).cells t (0, 0))) := by
      simp [execOp, ho, Instr.box, newVar, newRow]
    unfold Oper.wp; rw [this]
    obtain ⟨hI', hx'⟩ := hI.alloc hn t (cells_rep' hX hne)
    exact hK _ _ _ hI' hx' (.ref _ _ _ (by simp [upd]))
  | buildSlice t len parts elem sz z xs ho hu hs hz hne hzl h0 hle hcl hfill =>
    obtain ⟨u, it, hi, hzu, hzr⟩ := zeroAV_sound (I := I) (w := w) (M := Mut M0 e) (e := e) hz
    have hzc := cells_rep' hzr hne
    have hul : u.cells.size = sz := by have := hzc.1; simp at this; omega
    have h00 : RepLL I w (Mut M0 e) e sz (List.replicate len z.cells) ((Array.range (len * sz)).map (u.cells[· % u.cells.size]!)) := by
      refine ⟨by simp, fun i y hy => ?_, fun i j y x hy hx => ?_⟩
      · rw [List.getElem?_replicate] at hy
        split at hy
        · obtain rfl := Option.some.inj hy; exact hzl
        · cases hy
      · rw [List.getElem?_replicate] at hy
        split at hy
        · rename_i hil
          obtain rfl := Option.some.inj hy
          have hj : j < z.cells.length := by rcases Nat.lt_or_ge j z.cells.length with h' | h'; exact h'; simp [List.getElem?_eq_none h'] at hx
          obtain ⟨q, hq, hrq⟩ := hzc.get hx
          refine ⟨q, ?_, hrq⟩
          have hlt : i * sz + j < len * sz := by
            have : (i + 1) * sz ≤ len * sz := Nat.mul_le_mul_right _ hil
            rw [Nat.add_mul, Nat.one_mul] at this; omega
          have hmod : (i * sz + j) % u.cells.size = j := by rw [hul, Nat.add_comm, Nat.add_mul_mod_self_right]; exact Nat.mod_eq_of_lt (by omega)
          have hq' : u.cells[j]? = some q := by simpa using hq
          simp [Array.getElem?_map, Array.getElem?_range, hlt, hmod, getElem!_def, hq']
        · cases hy
    obtain ⟨ds, hds, hrd, hlen⟩ := fillS_sound (I := I) (w := w) (M := Mut M0 e) (e := e) (sz := sz) (parts.toList.map fun p => (p.1, evOpd env p.2)) (parts.toList.map fun p => (p.1, a.eval p.2)) _ xs _ hfill (by simp) (fun j p q hp hq => by
      simp at hp hq
      obtain ⟨i, X, hX, rfl⟩ := hp
      obtain ⟨i', X', hX', rfl⟩ := hq
      rw [hX] at hX'
      obtain ⟨rfl, rfl⟩ := Prod.mk.inj (Option.some.inj hX')
      exact ⟨rfl, opd_rep hE X⟩) h00
    have hxl : xs.length = len := by simpa using hlen
    have hlsz : ¬ (len * sz > 2 ^ 24) := by omega
    have : (execOp a.eval o).run P w = .ok (.value (.slice (some ⟨w.heap.size, 0, none⟩) len len)) (w.alloc (.cells ds elem (0, 0))) := by
      have hpar : (parts.map fun (p : Nat × Operand) => (p.1, a.eval p.2)).toList = parts.toList.map fun p => (p.1, a.eval p.2) := by simp
      simp only [execOp, ho, Instr.buildSlice, Sem.run_bind, run_underlying hu, run_size hs, Result.andThen_ok, hlsz, if_false]
      by_cases hz0 : len * sz = 0
      · have : len = 0 := by rcases Nat.mul_eq_zero.1 hz0 with h | h; exact h; omega
        subst this
        have hr0 : ∀ f : Nat → Value, (Array.range (0 * sz)).map f = #[] := by intro f; simp
        rw [hr0] at hds
        rw [if_pos hz0]
        simp only [hr0, Sem.run_pure, Result.andThen_ok]
        rw [show (parts.map fun (x : Nat × Operand) => (x.1, a.eval x.2)).toList = parts.toList.map fun p => (p.1, a.eval p.2) by simp, hds]
        simp [newRow]
      · rw [if_neg hz0]
        simp only [Sem.run_bind, zeroValue, typeInfo, hi, hzu, program, Sem.run, Result.andThen_ok, Sem.run_pure]
        rw [show (parts.map fun (x : Nat × Operand) => (x.1, a.eval x.2)).toList = parts.toList.map fun p => (p.1, a.eval p.2) by simp, hds]
        simp [newRow]
    unfold Oper.wp; rw [this]
    obtain ⟨hI', hx'⟩ := hI.below ((Below.refl w.heap.size w).alloc (Nat.le_refl _) (.cells ds elem (0, 0)))
    refine hK _ _ e hI' hx' ?_
    rw [← hxl]
    refine .sli sz xs w.heap.size 0 (fun i j => ds.getD (i * sz + j) Go.undef) (fun i j y x hy hx => ?_) (fun i j y x hy hx => ?_)
    · obtain ⟨q, hq, _⟩ := hrd.2.2 i j y x hy hx
      refine ⟨fun hm => absurd (hI.lt hm) (Nat.lt_irrefl _), ?_⟩
      rw [cell_of_row _ w.heap.size _ ds elem (0, 0) (heap_alloc_new w _), Nat.zero_add, hq]
      simp [Array.getD_eq_getD_getElem?, hq]
    · obtain ⟨q, hq, hr⟩ := hrd.2.2 i j y x hy hx
      simp only [Array.getD_eq_getD_getElem?, hq, Option.getD_some]
      exact hr.ext hx'
  | call c f n _ ho hc hf hcl hv =>
    obtain ⟨⟨fn, hfn, hbody, hname⟩, hcall⟩ := hS n _ v hv
    have hF := opd_rep hE f; rw [hf] at hF
    have eF : a.eval f = .func (.func n) #[] #[] := by
      generalize a.eval f = vf at hF
      cases hF with
      | fn _ _ _ as bs h1 h2 h3 h4 =>
        have e1 : as = #[] := by simpa using h1.symm
        have e2 : bs = #[] := by simpa using h2.symm
        rw [e1, e2]
    have hA := opds_rep hE c.args
    have hA' : RepL I w (Mut M0 e) (fun _ => none) (c.args.toList.map (evOpd env)) (c.args.map a.eval).toList :=
      ⟨hA.1, fun j x u hx hu => (hA.2 j x u hx hu).keep 0 (fun _ _ h => absurd h (Nat.not_lt_zero _)) (fun _ _ h => h) (fun _ _ _ => rfl) (belowL_get hcl hx)⟩
    have := hcall w (Mut M0 e) (c.args.map a.eval) (fun b hb => hI.lt hb) hA'
    have hrun : (execOp a.eval o).run P w = .ok (.enter n (c.args.map a.eval)) w := by
      have hname' : ¬ fn.name = "runtime.NumGoroutine" := by simpa using hname
      have hbody' : ¬ fn.body = none := by intro h0; rw [h0] at hbody; cases hbody
      simp [execOp, ho, resolve, hc, eF, Deferred.ofValue, invoke, callFunc, program, Sem.run, hfn, hname', hbody']
    unfold Oper.wp; rw [hrun]
    refine this.mono fun e' w' ⟨u, he', hbel, hr⟩ => ?_
    subst he'
    obtain ⟨hI', hx'⟩ := hI.below hbel
    obtain ⟨L, hL⟩ := below_big v
    exact hK u w' e hI' hx' (hr.keep L (fun _ _ _ h => by cases h) (fun _ _ h => h) (fun _ _ _ => rfl) (hL L (Nat.le_refl _)))
end
end Go.Proofs.Ytamfgbenceoleaa.Ev
