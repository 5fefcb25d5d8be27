import Derived.Test.YtamfgbenceoleaaEv3
namespace Go.Proofs.Ytamfgbenceoleaa.Ev
set_option linter.unusedVariables false
set_option linter.unusedSimpArgs false
set_option linter.unusedSectionVars false
set_option linter.unnecessarySimpa false
open Go.RowKit
section
variable {T : Type} {I : Interp T} {P : Program} {w : World} {M : Nat → Prop} {e : Nat → Option Nat}

theorem RepL.nil : RepL I w M e [] [] := ⟨rfl, fun j x v h => by simp at h⟩
theorem RepL.cons {x : AV T} {v : Value} {xs : List (AV T)} {vs : List Value} (h : Rep I w M e x v) (k : RepL I w M e xs vs) : RepL I w M e (x :: xs) (v :: vs) :=
  ⟨by simp [k.1], fun j y u hy hu => by cases j with
    | zero => simp at hy hu; subst hy; subst hu; exact h
    | succ j => simp at hy hu; exact k.2 j y u hy hu⟩
theorem RepL.get {xs : List (AV T)} {vs : List Value} (h : RepL I w M e xs vs) {j : Nat} {x : AV T} (hx : xs[j]? = some x) : ∃ v, vs[j]? = some v ∧ Rep I w M e x v := by
  have hj : j < xs.length := by rcases Nat.lt_or_ge j xs.length with h' | h'; exact h'; simp [List.getElem?_eq_none h'] at hx
  have hj' : j < vs.length := h.1 ▸ hj
  exact ⟨vs[j], List.getElem?_eq_getElem hj', h.2 j x _ hx (List.getElem?_eq_getElem hj')⟩
theorem RepL.ext {xs : List (AV T)} {vs : List Value} {w' : World} {M' : Nat → Prop} {e' : Nat → Option Nat} (h : RepL I w M e xs vs) (hx : Ext w M e w' M' e') : RepL I w' M' e' xs vs :=
  ⟨h.1, fun j x v hj hv => (h.2 j x v hj hv).ext hx⟩
theorem RepL.set {xs : List (AV T)} {vs : List Value} {x : AV T} {v : Value} (h : RepL I w M e xs vs) (d : Nat) (hv : Rep I w M e x v) : RepL I w M e (xs.set d x) (vs.set d v) := by
  refine ⟨by simp [h.1], fun j y u hy hu => ?_⟩
  rw [List.getElem?_set] at hy hu
  by_cases hd : d = j
  · simp only [hd, if_true] at hy hu
    split at hy
    · split at hu
      · simp at hy hu; subst hy; subst hu; exact hv
      · simp at hu
    · simp at hy
  · simp only [hd, if_false] at hy hu; exact h.2 j y u hy hu
theorem RepL.dropTake {xs : List (AV T)} {vs : List Value} (h : RepL I w M e xs vs) (a n : Nat) : RepL I w M e ((xs.drop a).take n) ((vs.drop a).take n) := by
  refine ⟨by simp [h.1], fun j x v hx hv => ?_⟩
  rw [List.getElem?_take] at hx hv
  split at hx
  · rename_i hj
    rw [if_pos hj] at hv
    rw [List.getElem?_drop] at hx hv
    exact h.2 _ x v hx hv
  · simp at hx
theorem RepL.append {xs ys : List (AV T)} {vs us : List Value} (h : RepL I w M e xs vs) (k : RepL I w M e ys us) : RepL I w M e (xs ++ ys) (vs ++ us) := by
  refine ⟨by simp [h.1, k.1], fun j x v hx hv => ?_⟩
  rw [List.getElem?_append] at hx hv
  by_cases hj : j < xs.length
  · rw [if_pos hj] at hx; rw [if_pos (h.1 ▸ hj)] at hv; exact h.2 j x v hx hv
  · rw [if_neg hj] at hx; rw [if_neg (h.1 ▸ hj), ← h.1] at hv; exact k.2 _ x v hx hv
theorem RepL.replicate {x : AV T} {v : Value} (h : Rep I w M e x v) (n : Nat) : RepL I w M e (List.replicate n x) (List.replicate n v) := by
  refine ⟨by simp, fun j y u hy hu => ?_⟩
  rw [List.getElem?_replicate] at hy hu
  split at hy <;> simp_all
theorem Rep.aggL {xs : List (AV T)} {cs : Array Value} : Rep I w M e (.agg xs) (.agg cs) ↔ RepL I w M e xs cs.toList :=
  ⟨fun h => by cases h with | agg _ _ h1 h2 => exact ⟨by simpa using h1, fun j x v hx hv => h2 j x v hx (by simpa using hv)⟩,
   fun h => .agg _ _ (by simpa using h.1) fun j x v hx hv => h.2 j x v hx (by simpa using hv)⟩
theorem Rep.agg_inv {xs : List (AV T)} {v : Value} (h : Rep I w M e (.agg xs) v) : ∃ cs, v = .agg cs ∧ RepL I w M e xs cs.toList := by
  cases h with | agg _ cs h1 h2 => exact ⟨cs, rfl, Rep.aggL.1 (.agg _ _ h1 h2)⟩
theorem Rep.tup_inv {xs : List (AV T)} {v : Value} (h : Rep I w M e (.tup xs) v) : ∃ cs, v = .tuple cs ∧ RepL I w M e xs cs.toList := by
  cases h with | tup _ cs h1 h2 => exact ⟨cs, rfl, ⟨by simpa using h1, fun j x v hx hv => h2 j x v hx (by simpa using hv)⟩⟩
theorem Rep.int_inv {k : IntKind} {n : Int} {v : Value} (h : Rep I w M e (.int k n) v) : v = .int k n := by cases h; rfl
theorem Rep.bool_inv {b : Bool} {v : Value} (h : Rep I w M e (.bool b) v) : v = .bool b := by cases h; rfl
theorem Rep.undef : Rep I w M e (.tup []) Go.undef := .tup [] #[] rfl (fun j x v h => by simp at h)
/-- The cells of a value. -/
theorem cells_rep {x : AV T} {v : Value} (h : Rep I w M e x v) (hx : ∀ v', x ≠ .any ∨ v' ≠ v) : RepL I w M e x.cells v.cells.toList := by
  cases h with
  | any => exact absurd rfl ((hx v).resolve_left (by simp))
  | agg xs vs h1 h2 => exact Rep.aggL.1 (.agg _ _ h1 h2)
  | tup xs vs h1 h2 => exact RepL.cons (.tup _ _ h1 h2) RepL.nil
  | bool b => exact RepL.cons (.bool b) RepL.nil
  | int k n => exact RepL.cons (.int k n) RepL.nil
  | str s => exact RepL.cons (.str s) RepL.nil
  | nilp => exact RepL.cons .nilp RepL.nil
  | ref id off b h => exact RepL.cons (.ref id off b h) RepL.nil
  | elt xs off b o vs h1 h2 => exact RepL.cons (.elt xs off b o vs h1 h2) RepL.nil
  | slcN full t h => exact RepL.cons (.slcN full t h) RepL.nil
  | slc full t b o cap vs h1 h2 h3 h4 => exact RepL.cons (.slc full t b o cap vs h1 h2 h3 h4) RepL.nil
  | sliN sz => exact RepL.cons (.sliN sz) RepL.nil
  | sli sz xs b o vs h1 h2 => exact RepL.cons (.sli sz xs b o vs h1 h2) RepL.nil
  | fn f xs ys as bs h1 h2 h3 h4 => exact RepL.cons (.fn f xs ys as bs h1 h2 h3 h4) RepL.nil
theorem cells_rep' {x : AV T} {v : Value} (h : Rep I w M e x v) (hx : x ≠ .any) : RepL I w M e x.cells v.cells.toList := cells_rep h fun _ => .inl hx
theorem one_rep {x : AV T} {v : Value} (h : Rep I w M e x v) (hx : x.one = true) : v.oneCell' = true := by
  cases h <;> first | rfl | simp [AV.one] at hx
theorem avOf0_rep (v : Value) : Rep I w M e (avOf0 (T := T) v) v := by
  unfold avOf0
  split
  · exact .bool _
  · exact .int _ _
  · exact .str _
  · exact .nilp
  · exact .sliN _
  · exact .any _
theorem avOf_rep : ∀ (n : Nat) (v : Value), Rep I w M e (avOf (T := T) n v) v := by
  intro n
  induction n with
  | zero => exact avOf0_rep
  | succ n ih =>
    have lst : ∀ (l : List Value), RepL I w M e (l.map (avOf (T := T) n)) l := fun l => ⟨by simp, fun j x v hx hv => by simp [hv] at hx; subst hx; exact ih v⟩
    intro v
    unfold avOf
    split
    · exact Rep.aggL.2 (lst _)
    · rename_i cs
      exact .tup _ _ (by simp) fun j x v hx hv => (lst cs.toList).2 j x v hx (by simpa using hv)
    · exact .fn _ _ _ _ _ (by simp) (by simp) (fun j x v hx hv => (lst _).2 j x v hx (by simpa using hv)) (fun j x v hx hv => (lst _).2 j x v hx (by simpa using hv))
    · exact avOf0_rep _
theorem run_isAgg {t : TypeId} {b : Bool} (h : isAggT P t = some b) : (isAgg t).run P w = .ok b w := by
  unfold isAggT at h
  cases hu : P.underlying t with
  | none => simp [hu] at h
  | some d =>
    simp only [hu, Option.map_some, Option.some.injEq] at h
    unfold isAgg
    rw [Sem.run_bind, run_underlying hu w]
    subst h
    cases d <;> rfl
theorem run_size {t : TypeId} {n : Nat} (h : sizeT P t = some n) : (sizeOf t).run P w = .ok n w := by
  unfold sizeT at h
  cases hi : P.info? t with
  | none => simp [hi] at h
  | some i => simp [hi] at h; simp [sizeOf, typeInfo, hi, h]
theorem part_sound {t : TypeId} {xs : List (AV T)} {off : Nat} {x : AV T} {cs : Array Value} (h : partAV P t xs off = some x) (hr : RepL I w M e xs cs.toList) :
    ∃ v, (part t cs off).run P w = .ok v w ∧ Rep I w M e x v := by
  unfold partAV at h
  cases ha : isAggT P t with
  | none => simp [ha] at h
  | some b =>
    cases b with
    | true =>
      cases hs : sizeT P t with
      | none => simp [ha, hs] at h
      | some n =>
        simp only [ha, hs] at h
        cases hc : Nat.ble (off + n) xs.length with
        | false => simp [hc] at h
        | true =>
          simp only [hc, cond_true, Option.some.injEq] at h
          subst h
          refine ⟨.agg (cs.extract off (off + n)), ?_, ?_⟩
          · simp [part, run_isAgg ha, run_size hs]
          · rw [Rep.aggL]
            have := hr.dropTake off n
            rw [show (cs.extract off (off + n)).toList = (cs.toList.drop off).take n by simp [List.extract_eq_take_drop]]
            exact this
    | false =>
      simp only [ha] at h
      obtain ⟨v, hv, hrep⟩ := hr.get h
      have hv' : cs[off]? = some v := by simpa using hv
      exact ⟨v, by simp [part, run_isAgg ha, hv'], hrep⟩
theorem add_none (b o n : Nat) : (⟨b, o, none⟩ : Addr).add n = ⟨b, o + n, none⟩ := by unfold Addr.add; split <;> simp_all
/-- A load: the cells from o on are xs. -/
theorem load_sound {t : TypeId} {xs : List (AV T)} {b o off : Nat} {x : AV T} (h : partAV P t xs off = some x)
    (hc : ∀ (j : Nat) y, xs[j]? = some y → ∃ u, w.cell? ⟨b, o + j, none⟩ = some u ∧ Rep I w M e y u) :
    ∃ v, (loadVar t ⟨b, o + off, none⟩).run P w = .ok v w ∧ Rep I w M e x v := by
  unfold partAV at h
  cases ha : isAggT P t with
  | none => simp [ha] at h
  | some bb =>
    cases bb with
    | true =>
      cases hs : sizeT P t with
      | none => simp [ha, hs] at h
      | some n =>
        simp only [ha, hs] at h
        cases hb : Nat.ble (off + n) xs.length with
        | false => simp [hb] at h
        | true =>
          have hle : off + n ≤ xs.length := by simpa using hb
          simp only [hb, cond_true, Option.some.injEq] at h
          subst h
          let f : Nat → Value := fun j => (w.cell? ⟨b, o + off + j, none⟩).getD Go.undef
          have hl := run_loadCells (P := P) w ⟨b, o + off, none⟩ n f (fun j hj => by
            obtain ⟨u, hu, _⟩ := hc (off + j) xs[off + j] (List.getElem?_eq_getElem (by omega))
            rw [add_none]
            show _ = some ((w.cell? ⟨b, o + off + j, none⟩).getD Go.undef)
            rw [Nat.add_assoc, hu]; rfl)
          refine ⟨.agg ((List.range n).map f).toArray, ?_, ?_⟩
          · simp [loadVar, run_isAgg ha, run_size hs, hl]
          · rw [Rep.aggL]
            refine ⟨by simp; omega, fun j y v hy hv => ?_⟩
            rw [List.getElem?_take] at hy
            split at hy
            · rename_i hj
              rw [List.getElem?_drop] at hy
              obtain ⟨u, hu, hr⟩ := hc (off + j) y hy
              simp [hj] at hv
              subst hv
              show Rep I w M e y ((w.cell? ⟨b, o + off + j, none⟩).getD Go.undef)
              rw [Nat.add_assoc, hu]; exact hr
            · simp at hy
    | false =>
      simp only [ha] at h
      obtain ⟨u, hu, hr⟩ := hc off x h
      exact ⟨u, by simp [loadVar, run_isAgg ha, load, Sem.run, hu], hr⟩
theorem setFrom_get : ∀ (cs : List (AV T)) (off : Nat) (xs : List (AV T)) (j : Nat), off + xs.length ≤ cs.length →
    (setFrom cs off xs)[j]? = if off ≤ j ∧ j < off + xs.length then xs[j - off]? else cs[j]?
  | cs, off, [], j, _ => by simp only [setFrom, List.length_nil]; rw [if_neg (by omega)]
  | cs, off, x :: r, j, h => by
    simp only [List.length_cons] at h
    rw [setFrom, setFrom_get (cs.set off x) (off + 1) r j (by simp; omega)]
    simp only [List.length_cons]
    by_cases h1 : off + 1 ≤ j ∧ j < off + 1 + r.length
    · rw [if_pos h1, if_pos (by omega), show j - off = (j - (off + 1)) + 1 by omega]; simp
    · rw [if_neg h1]
      by_cases h2 : j = off
      · subst h2; rw [if_pos (by omega), List.getElem?_set_self (by omega)]; simp
      · rw [if_neg (by omega), List.getElem?_set_ne (by omega)]
theorem setFrom_len : ∀ (cs : List (AV T)) (off : Nat) (xs : List (AV T)), (setFrom cs off xs).length = cs.length
  | _, _, [] => rfl
  | cs, off, x :: r => by rw [setFrom, setFrom_len]; simp
theorem setFrom_rep {cs xs : List (AV T)} {vs us : List Value} {off : Nat} (h : RepL I w M e cs vs) (k : RepL I w M e xs us) (hle : off + xs.length ≤ cs.length) :
    RepL I w M e (setFrom cs off xs) (vs.take off ++ us ++ vs.drop (off + us.length)) := by
  refine ⟨by rw [setFrom_len]; simp only [List.length_append, List.length_take, List.length_drop]; have := h.1; have := k.1; omega, fun j x v hx hv => ?_⟩
  rw [setFrom_get _ _ _ _ hle] at hx
  have hl := h.1
  have kl := k.1
  by_cases hj : off ≤ j ∧ j < off + xs.length
  · rw [if_pos hj] at hx
    refine k.2 (j - off) x v hx ?_
    rw [List.getElem?_append_left (by simp; omega), List.getElem?_append_right (by simp; omega)] at hv
    simpa [show min off vs.length = off by omega] using hv
  · rw [if_neg hj] at hx
    refine h.2 j x v hx ?_
    by_cases hlt : j < off
    · rw [List.getElem?_append_left (by simp; omega), List.getElem?_append_left (by simp; omega), List.getElem?_take] at hv
      simpa [hlt] using hv
    · rw [List.getElem?_append_right (by simp; omega)] at hv
      rw [List.getElem?_drop] at hv
      rw [← hv]; congr 1; simp; omega
end
end Go.Proofs.Ytamfgbenceoleaa.Ev
