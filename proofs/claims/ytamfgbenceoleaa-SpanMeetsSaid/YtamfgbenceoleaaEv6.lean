import Derived.Test.YtamfgbenceoleaaEv5
namespace Go.Proofs.Ytamfgbenceoleaa.Ev
set_option linter.unusedVariables false
set_option linter.unusedSimpArgs false
set_option linter.unusedSectionVars false
set_option linter.unnecessarySimpa false
open Go.RowKit
section
variable {T : Type} {I : Interp T} {P : Program} {w : World} {M : Nat → Prop} {e : Nat → Option Nat}
theorem Rep.ref_inv {id off : Nat} {v : Value} (h : Rep I w M e (.ref id off) v) : ∃ b, v = .pointer (some ⟨b, off, none⟩) ∧ e id = some b := by cases h with | ref _ _ b h => exact ⟨b, rfl, h⟩
theorem map_some_inv {α β : Type} {o : Option α} {f : α → β} {b : β} (h : o.map f = some b) : ∃ a, o = some a ∧ f a = b := by cases o <;> simp_all
theorem pair_true {a : Bool} {v u : AV T} (h : some (a, v) = some (true, u)) : a = true ∧ v = u := by simpa using h
theorem fillAV_sound {place : Nat → Option (Nat × Nat)} : ∀ (parts : List (Nat × AV T)) (vparts : List (Nat × Value)) (cells : List (AV T)) (out : List (AV T)) (cs : Array Value), fillAV place cells parts = some out →
    parts.length = vparts.length → (∀ (j : Nat) p q, parts[j]? = some p → vparts[j]? = some q → p.1 = q.1 ∧ Rep I w M e p.2 q.2) → RepL I w M e cells cs.toList →
    ∃ ds, Instr.fill place cs vparts = some ds ∧ RepL I w M e out ds.toList
  | [], vparts, cells, out, cs, h, hl, hp, hc => by
    cases vparts with
    | nil => simp only [fillAV, Option.some.injEq] at h; subst h; exact ⟨cs, rfl, hc⟩
    | cons _ _ => simp at hl
  | (i, v) :: rest, vparts, cells, out, cs, h, hl, hp, hc => by
    cases vparts with
    | nil => simp at hl
    | cons q qs =>
      obtain ⟨i', u⟩ := q
      obtain ⟨rfl, hr⟩ := hp 0 (i, v) (i', u) rfl rfl
      rw [fillAV] at h
      cases hpl : place i with
      | none => simp only [hpl] at h; cases h
      | some os =>
        obtain ⟨off, size⟩ := os
        simp only [hpl] at h
        have hv : v ≠ .any := by rintro rfl; cases h
        have h' : (bif Nat.beq v.cells.length size && Nat.ble (off + v.cells.length) cells.length then fillAV place (setFrom cells off v.cells) rest else none) = some out := by
          cases v <;> first | exact absurd rfl hv | exact h
        cases hb : (Nat.beq v.cells.length size && Nat.ble (off + v.cells.length) cells.length) with
        | false => rw [hb] at h'; cases h'
        | true =>
          rw [hb] at h'; simp only [cond_true] at h'
          simp only [Bool.and_eq_true] at hb
          have h1 : v.cells.length = size := by simpa using hb.1
          have h2 : off + v.cells.length ≤ cells.length := by simpa using hb.2
          have hcr := cells_rep' hr hv
          have hlen : u.cells.size = size := by have := hcr.1; simp at this; omega
          have hcl : cells.length = cs.size := by have := hc.1; simpa using this
          have hset : ∀ (xs : List (AV T)) (us : List Value) (k : Nat) (cl : List (AV T)) (c0 : Array Value), RepL I w M e xs us → RepL I w M e cl c0.toList →
              RepL I w M e (setFrom cl (off + k) xs) ((us.zipIdx k).foldl (fun cs (p : Value × Nat) => cs.setIfInBounds (off + p.2) p.1) c0).toList := by
            intro xs
            induction xs with
            | nil => intro us k cl c0 h1 h2; cases us with
              | nil => exact h2
              | cons _ _ => simp [RepL] at h1
            | cons x r ih =>
              intro us k cl c0 h1 h2
              cases us with
              | nil => simp [RepL] at h1
              | cons u us =>
                have h3 : RepL I w M e r us := ⟨by have := h1.1; simpa using this, fun j z t hz ht => h1.2 (j + 1) z t (by simpa using hz) (by simpa using ht)⟩
                have := ih us (k + 1) (cl.set (off + k) x) (c0.setIfInBounds (off + k) u) h3 (by
                  have := h2.set (off + k) (h1.2 0 x u rfl rfl)
                  simpa using this)
                simpa [setFrom, Nat.add_assoc] using this
          have hnew := hset v.cells u.cells.toList 0 cells cs hcr hc
          obtain ⟨ds, hds, hrd⟩ := fillAV_sound rest qs _ out _ h' (by simpa using hl) (fun j p q hj hq => hp (j + 1) p q (by simpa using hj) (by simpa using hq)) hnew
          refine ⟨ds, ?_, hrd⟩
          rw [Instr.fill]
          simp only [hpl]
          rw [if_neg (by simp; omega)]
          rw [← hds, ← Array.foldl_toList, Array.toList_zipIdx]
theorem zeroAV_sound {t : TypeId} {z : AV T} (h : zeroAV P t = some z) : ∃ u i, P.info? t = some i ∧ i.zero = some u ∧ Rep I w M e z u := by
  unfold zeroAV at h
  obtain ⟨u, hu, rfl⟩ := map_some_inv h
  cases hi : P.info? t with
  | none => simp [hi] at hu
  | some i => simp [hi] at hu; exact ⟨u, i, rfl, hu, avOf_rep _ _⟩
theorem buildAV_sound {t : TypeId} {parts : List (Nat × AV T)} {vparts : Array (Nat × Value)} {x : AV T} (h : buildAV P t parts = some x)
    (hl : parts.length = vparts.size) (hp : ∀ (j : Nat) p q, parts[j]? = some p → vparts[j]? = some q → p.1 = q.1 ∧ Rep I w M e p.2 q.2) :
    ∃ u, (Instr.build t vparts).run P w = .ok u w ∧ Rep I w M e x u := by
  unfold buildAV at h
  have hp' : ∀ (j : Nat) p q, parts[j]? = some p → vparts.toList[j]? = some q → p.1 = q.1 ∧ Rep I w M e p.2 q.2 := fun j p q h1 h2 => hp j p q h1 (by simpa using h2)
  split at h
  · rename_i fields z hu hz
    have hna : AV.agg z ≠ .any := by simp
    obtain ⟨zu, it, hi, hzu, hzr⟩ := zeroAV_sound (I := I) (w := w) (M := M) (e := e) hz
    cases hpl : places P fields.toList with
    | none => simp only [hpl] at h; cases h
    | some ps =>
      simp only [hpl] at h
      obtain ⟨out, ho, rfl⟩ := map_some_inv h
      obtain ⟨ds, hds, hrd⟩ := fillAV_sound parts vparts.toList _ out zu.cells ho (by simpa using hl) hp' (cells_rep' hzr hna)
      refine ⟨.agg ds, run_build w t vparts ds ?_, Rep.aggL.2 hrd⟩
      unfold Program.built
      unfold places at hpl
      simp only [hi, hu, hzu, hpl]
      simpa using hds
  · rename_i n elem z hu hz
    have hna : AV.agg z ≠ .any := by simp
    obtain ⟨zu, it, hi, hzu, hzr⟩ := zeroAV_sound (I := I) (w := w) (M := M) (e := e) hz
    cases hs : sizeT P elem with
    | none => simp only [hs] at h; cases h
    | some sz =>
      simp only [hs] at h
      obtain ⟨out, ho, rfl⟩ := map_some_inv h
      obtain ⟨ds, hds, hrd⟩ := fillAV_sound parts vparts.toList _ out zu.cells ho (by simpa using hl) hp' (cells_rep' hzr hna)
      refine ⟨.agg ds, run_build w t vparts ds ?_, Rep.aggL.2 hrd⟩
      unfold sizeT at hs
      obtain ⟨ie, hie, rfl⟩ := map_some_inv hs
      unfold Program.built
      simp only [hi, hu, hzu, hie]
      exact hds
  · cases h
theorem index_sound {t : TypeId} {x i : Value} {u : Value} (h : (Instr.indexAt t x i).run P w = .ok u w) (o : Oper) (a : Act) (X Y : Operand) (ho : o.op = .indexAddr t X Y) (hx : a.eval X = x) (hi : a.eval Y = i) :
    (execOp a.eval o).run P w = .ok (.value u) w := by simp [execOp, ho, hx, hi, h]
end
end Go.Proofs.Ytamfgbenceoleaa.Ev
