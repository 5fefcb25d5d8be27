import Derived.Test.YtamfgbenceoleaaEv6
namespace Go.Proofs.Ytamfgbenceoleaa.Ev
set_option linter.unusedVariables false
set_option linter.unusedSimpArgs false
set_option linter.unusedSectionVars false
set_option linter.unnecessarySimpa false
open Go.RowKit
section
variable {T : Type} {I : Interp T} {P : Program} {w : World} {M : Nat → Prop} {e : Nat → Option Nat}
/-- What a pure operation comes to. -/
def Goes (I : Interp T) (P : Program) (w : World) (M : Nat → Prop) (e : Nat → Option Nat) (s : Sem Next) (x : AV T) : Prop := ∃ u, s.run P w = .ok (.value u) w ∧ Rep I w M e x u
theorem goes_v {s : Sem Value} {x : AV T} (h : ∃ u, s.run P w = .ok u w ∧ Rep I w M e x u) : Goes I P w M e (do pure (.value (← s))) x := by
  obtain ⟨u, hu, hr⟩ := h
  exact ⟨u, by simp [hu], hr⟩
theorem opds_rep {env : List (AV T)} {a : Act} (h : RepL I w M e env a.tmps.toList) (xs : Array Operand) : RepL I w M e (xs.toList.map (evOpd env)) (xs.map a.eval).toList :=
  ⟨by simp, fun j x v hx hv => by
    simp at hx hv
    obtain ⟨o, ho, rfl⟩ := hx
    obtain ⟨o', ho', rfl⟩ := hv
    rw [ho] at ho'
    obtain rfl := Option.some.inj ho'
    exact opd_rep h o⟩
variable {env : List (AV T)} {a : Act} {o : Oper} {x : AV T}
theorem pure_binOp (hE : RepL I w M e env a.tmps.toList) (op : BinOp) (t : TypeId) (X Y : Operand) (ty : TypeId) (ho : o.op = .binOp op t X Y ty) (h : evPure I P (evOpd env) o = some (true, x)) :
    Goes I P w M e (execOp a.eval o) x := by
  have hX := opd_rep hE X
  have hY := opd_rep hE Y
  unfold evPure at h
  simp only [ho] at h
  unfold execOp
  simp only [ho]
  refine goes_v ?_
  split at h
  · rename_i k x' k' y' ex ey
    rw [ex] at hX; rw [ey] at hY
    have eX := hX.int_inv
    have eY := hY.int_inv
    rw [eX, eY]
    have hg : ∀ s : Sem Value, (do eqGuard op t X Y (.int k x') (.int k' y'); s).run P w = s.run P w := by intro s; cases op <;> simp [eqGuard]
    rw [hg]
    split at h
    · exact evShift_sound h t
    · exact evShift_sound h t
    · rename_i h1 h2
      cases hk : sameK k k' with
      | false => rw [hk] at h; cases h
      | true =>
        rw [hk] at h
        have := sameK_eq hk; subst this
        exact evInt_sound h ⟨fun h => h1 h, fun h => h2 h⟩ t
  · rename_i xs ys ex ey
    rw [ex] at hX; rw [ey] at hY
    obtain ⟨cs, eX, hx⟩ := hX.agg_inv
    obtain ⟨ds, eY, hy⟩ := hY.agg_inv
    rw [eX] at hX ⊢
    rw [eY] at hY ⊢
    cases hgt : P.eqGuardType P.depth t with
    | true => rw [hgt] at h; cases h
    | false =>
      rw [hgt] at h
      simp only [cond_false] at h
      have hg : ∀ s : Sem Value, (do eqGuard op t X Y (.agg cs) (.agg ds); s).run P w = s.run P w := by intro s; cases op <;> simp [eqGuard, program, Sem.run, hgt]
      rw [hg]
      split at h
      · obtain ⟨b, hb, hp⟩ := map_some_inv h
        obtain ⟨-, rfl⟩ := pair_true (congrArg some hp)
        have := evEq_sound (I := I) (w := w) (M := M) (e := e) 9992 8 t _ _ b hb _ _ hX hY
        exact ⟨.bool b, by simp [binOp, Op.equal, Op.maxDepth, this], .bool _⟩
      · obtain ⟨b, hb, hp⟩ := map_some_inv h
        obtain ⟨-, rfl⟩ := pair_true (congrArg some hp)
        have := evEq_sound (I := I) (w := w) (M := M) (e := e) 9992 8 t _ _ b hb _ _ hX hY
        exact ⟨.bool !b, by simp [binOp, Op.equal, Op.maxDepth, this], .bool _⟩
      · cases h
  · rename_i x' y' ex ey
    rw [ex] at hX; rw [ey] at hY
    have eX := hX.bool_inv
    have eY := hY.bool_inv
    rw [eX, eY]
    have hg : ∀ s : Sem Value, (do eqGuard op t X Y (.bool x') (.bool y'); s).run P w = s.run P w := by intro s; cases op <;> simp [eqGuard]
    rw [hg]
    split at h
    · rename_i hu
      obtain ⟨-, rfl⟩ := pair_true h
      have h1 := evEq_sound (I := I) (P := P) (w := w) (M := M) (e := e) 9992 8 t (.bool x') (.bool y') (x' == y') (by unfold evEq; simp only [hu]) _ _ (.bool _) (.bool _)
      have hb : binOp .eql t (.bool x') (.bool y') = (do pure (.bool (← Op.equalIn (8 + 9992) t (.bool x') (.bool y')))) := rfl
      exact ⟨.bool (x' == y'), by rw [hb, Sem.run_bind, h1]; rfl, .bool _⟩
    · rename_i hu
      obtain ⟨-, rfl⟩ := pair_true h
      have h1 := evEq_sound (I := I) (P := P) (w := w) (M := M) (e := e) 9992 8 t (.bool x') (.bool y') (x' == y') (by unfold evEq; simp only [hu]) _ _ (.bool _) (.bool _)
      have hb : binOp .neq t (.bool x') (.bool y') = (do pure (.bool !(← Op.equalIn (8 + 9992) t (.bool x') (.bool y')))) := rfl
      exact ⟨.bool !(x' == y'), by rw [hb, Sem.run_bind, h1]; rfl, .bool _⟩
    · cases h
  · cases h
theorem pure_field (hE : RepL I w M e env a.tmps.toList) (t : TypeId) (X : Operand) (f : Nat) (ho : o.op = .field t X f) (h : evPure I P (evOpd env) o = some (true, x)) : Goes I P w M e (execOp a.eval o) x := by
  have hX := opd_rep hE X
  unfold evPure at h
  simp only [ho] at h
  unfold execOp
  simp only [ho]
  refine goes_v ?_
  split at h
  · rename_i fields hu
    split at h
    · rename_i f' hf
      split at h
      · rename_i xs ex
        rw [ex] at hX
        obtain ⟨cs, eX, hx⟩ := hX.agg_inv
        obtain ⟨v, hv, hp⟩ := map_some_inv h
        obtain ⟨-, rfl⟩ := pair_true (congrArg some hp)
        obtain ⟨u, hu', hr⟩ := part_sound hv hx
        exact ⟨u, by simp [Instr.field, run_underlying hu, hf, eX, asAgg, hu'], hr⟩
      · cases h
    · cases h
  · cases h
theorem pure_fieldAddr (hE : RepL I w M e env a.tmps.toList) (t : TypeId) (X : Operand) (f : Nat) (ho : o.op = .fieldAddr t X f) (h : evPure I P (evOpd env) o = some (true, x)) : Goes I P w M e (execOp a.eval o) x := by
  have hX := opd_rep hE X
  unfold evPure at h
  simp only [ho] at h
  unfold execOp
  simp only [ho]
  refine goes_v ?_
  split at h
  · rename_i fields hu
    split at h
    · rename_i f' hf
      split at h
      · rename_i n id off hs ex
        rw [ex] at hX
        obtain ⟨b, eX, hb⟩ := hX.ref_inv
        obtain ⟨-, rfl⟩ := pair_true h
        exact ⟨.pointer (some ⟨b, off + f'.offset, none⟩), by simp [Instr.fieldAt, run_underlying hu, hf, eX, Instr.sureAddr, fieldPlace, run_size hs, add_none], .ref _ _ _ hb⟩
      · rename_i n xs off hs ex
        rw [ex] at hX
        obtain ⟨-, rfl⟩ := pair_true h
        generalize hv : a.eval X = v at hX
        cases hX with
        | elt xs off b o' vs h1 h2 =>
          refine ⟨.pointer (some ⟨b, o' + off + f'.offset, none⟩), by simp [Instr.fieldAt, run_underlying hu, hf, hv, Instr.sureAddr, fieldPlace, run_size hs, add_none], ?_⟩
          rw [Nat.add_assoc]
          exact .elt _ _ _ _ vs h1 h2
      · cases h
    · cases h
  · cases h
theorem pure_index (hE : RepL I w M e env a.tmps.toList) (t : TypeId) (X Y : Operand) (ho : o.op = .index t X Y) (h : evPure I P (evOpd env) o = some (true, x)) : Goes I P w M e (execOp a.eval o) x := by
  have hX := opd_rep hE X
  have hY := opd_rep hE Y
  unfold evPure at h
  simp only [ho] at h
  unfold execOp
  simp only [ho]
  refine goes_v ?_
  split at h
  · rename_i len elem xs k i hu ex ey
    rw [ex] at hX; rw [ey] at hY
    obtain ⟨cs, eX, hx⟩ := hX.agg_inv
    have eY := hY.int_inv
    split at h
    · rename_i sz hs
      split at h
      · rename_i v hv
        obtain ⟨hg, rfl⟩ := pair_true h
        simp only [Bool.and_eq_true, decide_eq_true_eq] at hg
        obtain ⟨u, hu', hr⟩ := part_sound hv hx
        exact ⟨u, by simp [Instr.index, eY, asIntOf, run_underlying hu, eX, hg.1, hg.2, run_size hs, hu'], hr⟩
      · cases h
    · cases h
  · cases h
theorem pure_indexAddr (hE : RepL I w M e env a.tmps.toList) (t : TypeId) (X Y : Operand) (ho : o.op = .indexAddr t X Y) (h : evPure I P (evOpd env) o = some (true, x)) : Goes I P w M e (execOp a.eval o) x := by
  have hX := opd_rep hE X
  have hY := opd_rep hE Y
  unfold evPure at h
  simp only [ho] at h
  unfold execOp
  simp only [ho]
  refine goes_v ?_
  split at h
  · rename_i len elem id off k i hu ex ey
    rw [ex] at hX; rw [ey] at hY
    obtain ⟨b, eX, hb⟩ := hX.ref_inv
    have eY := hY.int_inv
    split at h
    · rename_i sz hs
      obtain ⟨hg, rfl⟩ := pair_true h
      simp only [Bool.and_eq_true, decide_eq_true_eq] at hg
      exact ⟨.pointer (some ⟨b, off + i.toNat * sz, none⟩), by simp [Instr.indexAt, eY, asIntOf, run_underlying hu, eX, Instr.sureAddr, hg.1, hg.2, run_size hs, add_none], .ref _ _ _ hb⟩
    · cases h
  · rename_i elem full s k i hu ex ey
    rw [ex] at hX; rw [ey] at hY
    have eY := hY.int_inv
    split at h
    · rename_i sz hs
      cases hb : Nat.beq sz (I.sz s) with
      | false => rw [hb] at h; cases h
      | true =>
        rw [hb] at h; simp only [cond_true] at h
        have hsz : sz = I.sz s := by simpa using hb
        subst hsz
        obtain ⟨hg, rfl⟩ := pair_true h
        simp only [Bool.and_eq_true, decide_eq_true_eq] at hg
        generalize hv : a.eval X = v at hX
        cases hX with
        | slcN _ _ h0 => rw [h0] at hg; omega
        | slc _ _ b o' cap vs h1 h2 h3 h4 =>
          have hi : i.toNat < I.len s := by omega
          refine ⟨.pointer (some ⟨b, o' + i.toNat * I.sz s, none⟩), by simp [Instr.indexAt, eY, asIntOf, run_underlying hu, hv, hg.1, hg.2, run_size hs, add_none], ?_⟩
          have := Rep.elt (I := I) (w := w) (M := M) (e := e) (I.cells s i.toNat) 0 b (o' + i.toNat * I.sz s) (vs i.toNat) (fun j y hy => h3 _ j y hi hy) (fun j y hy => h4 _ j y hi hy)
          simpa using this
    · cases h
  · rename_i elem z xs k i hu ex ey
    rw [ex] at hX; rw [ey] at hY
    have eY := hY.int_inv
    split at h
    · rename_i sz hs
      cases hb : Nat.beq sz z with
      | false => rw [hb] at h; cases h
      | true =>
        rw [hb] at h; simp only [cond_true] at h
        have hsz : sz = z := by simpa using hb
        subst hsz
        obtain ⟨hg, rfl⟩ := pair_true h
        simp only [Bool.and_eq_true, decide_eq_true_eq] at hg
        generalize hv : a.eval X = v at hX
        cases hX with
        | sliN _ => simp at hg; omega
        | sli _ _ b o' vs h1 h2 =>
          have hi : i.toNat < xs.length := by omega
          have hget : xs.getD i.toNat [] = xs[i.toNat] := by simp [List.getD_eq_getElem?_getD, List.getElem?_eq_getElem hi]
          refine ⟨.pointer (some ⟨b, o' + i.toNat * sz, none⟩), by simp [Instr.indexAt, eY, asIntOf, run_underlying hu, hv, hg.1, hg.2, run_size hs, add_none], ?_⟩
          rw [hget]
          have := Rep.elt (I := I) (w := w) (M := M) (e := e) xs[i.toNat] 0 b (o' + i.toNat * sz) (vs i.toNat) (fun j y hy => h1 _ j _ y (List.getElem?_eq_getElem hi) hy) (fun j y hy => h2 _ j _ y (List.getElem?_eq_getElem hi) hy)
          simpa using this
    · cases h
  · cases h
end
end Go.Proofs.Ytamfgbenceoleaa.Ev
