/- From the reading of an argument to the shape of its cells: one lemma for each form of type. No condition. -/
import Derived.Test.YtamfgbenceoleaaTok
import Derived.ChangeArms
import Derived.OpenShut
import Derived.SizedLaws
import Derived.DataReads
import Derived.WideShapes
namespace Go.Proofs.Ytamfgbenceoleaa.Opn
set_option linter.unusedVariables false
set_option linter.unusedSimpArgs false
set_option linter.unusedSectionVars false
set_option linter.unnecessarySimpa false
open Go.RowKit Go.Proofs.Ytamfgbenceoleaa.Ev
set_option linter.unusedVariables false
section
variable {H : Type}
/-- Readings of type t have cells of which G holds; fuel up to m. -/
def Opens (enc : TypeId × Value → H) (P : Program) (W : World) (m : Nat) (t : TypeId) (G : List Value → Prop) : Prop :=
  ∀ fuel, fuel ≤ m → ∀ cs x, DataW.trod enc P W 0 (fun _ => true) true fuel t cs = some x → G cs
variable {enc : TypeId × Value → H} {P : Program} {W : World} {m : Nat} {t e : TypeId} {G : List Value → Prop}
theorem Opens.le {m' : Nat} (h : Opens enc P W m t G) (hm : m' ≤ m) : Opens enc P W m' t G := fun fuel hf => h fuel (Nat.le_trans hf hm)
theorem opens_int {k : IntKind} (ht : P.underlying t = some (.int k)) : Opens enc P W m t (fun cs => ∃ n, cs = [.int k n] ∧ (Lit.int k n).wf = true) := by
  intro fuel _ cs x h
  obtain ⟨n, rfl, rfl, hw⟩ := DataW.trod_int ht h
  exact ⟨n, rfl, hw⟩
theorem opens_bool (ht : P.underlying t = some .bool) : Opens enc P W m t (fun cs => ∃ b, cs = [.bool b]) := by
  intro fuel _ cs x h
  obtain ⟨n, rfl, rfl⟩ := DataW.trod_bool ht h
  exact ⟨n, rfl⟩
/-- Values that are read one behind the other. -/
inductive FieldsRead (enc : TypeId × Value → H) (P : Program) (W : World) (n : Nat) : List TypeId → List Value → List (DataW H × List MemPlace) → Prop
  | nil : FieldsRead enc P W n [] [] []
  | cons {t : TypeId} {ts : List TypeId} {c cs : List Value} {x : DataW H × List MemPlace} {xs : List (DataW H × List MemPlace)} (h : DataW.trod enc P W 0 (fun _ => true) true n t c = some x) (hs : FieldsRead enc P W n ts cs xs) : FieldsRead enc P W n (t :: ts) (c ++ cs) (x :: xs)
/-- Fields one behind the other, from offset o on, to the end (total). -/
def consec (P : Program) : Nat → Nat → List (Nat × TypeId) → Bool
  | o, total, [] => decide (o = total)
  | o, total, (off, t) :: r => decide (off = o) && consec P (o + P.cellsOf t) total r
theorem fieldsRead_of {n total : Nat} {cs : List Value} (hl : cs.length = total) : ∀ (fs : List (Nat × TypeId)) (o : Nat) (xs : List (DataW H × List MemPlace)), xs.length = fs.length → consec P o total fs = true → o ≤ total →
    (∀ (i : Nat) (off : Nat) (t : TypeId), fs[i]? = some (off, t) → DataW.trod enc P W 0 (fun _ => true) true n t ((cs.drop off).take (P.cellsOf t)) = xs[i]?) → FieldsRead enc P W n (fs.map (·.2)) (cs.drop o) xs
  | [], o, xs, hx, hc, ho, h => by
    have e : o = total := of_decide_eq_true hc
    obtain rfl : xs = [] := List.length_eq_zero_iff.1 hx
    rw [List.drop_of_length_le (by omega)]
    exact .nil
  | (off, t) :: r, o, [], hx, hc, ho, h => by simp at hx
  | (off, t) :: r, o, x :: xs, hx, hc, ho, h => by
    simp only [consec, Bool.and_eq_true, decide_eq_true_eq] at hc
    obtain ⟨rfl, hc⟩ := hc
    have h0 := h 0 off t rfl
    have ho2 : off + P.cellsOf t ≤ total := by
      clear h0 h hx
      suffices ∀ (r : List (Nat × TypeId)) (o : Nat), consec P o total r = true → o ≤ total from this r _ hc
      intro r
      induction r with
      | nil => intro o h; have := of_decide_eq_true h; omega
      | cons y r ih =>
        intro o h
        obtain ⟨off', t'⟩ := y
        simp only [consec, Bool.and_eq_true, decide_eq_true_eq] at h
        have := ih _ h.2
        omega
    have e : cs.drop off = (cs.drop off).take (P.cellsOf t) ++ cs.drop (off + P.cellsOf t) := by
      rw [← List.drop_drop, List.take_append_drop]
    rw [e]
    exact .cons (by simpa using h0) (fieldsRead_of hl r (off + P.cellsOf t) xs (by simpa using hx) hc ho2 (fun i off' t' hi => h (i + 1) off' t' hi))
/-- Rows of fields of which G holds. -/
def OpensRow (enc : TypeId × Value → H) (P : Program) (W : World) (m : Nat) (ts : List TypeId) (G : List Value → Prop) : Prop :=
  ∀ fuel, fuel ≤ m → ∀ cs xs, FieldsRead enc P W fuel ts cs xs → G cs
theorem row_nil : OpensRow enc P W m [] (fun cs => cs = []) := by
  intro fuel hf cs xs hr
  cases hr
  rfl
theorem row_cons {G2 : List Value → Prop} {ts : List TypeId} (h : Opens enc P W m t G) (h2 : OpensRow enc P W m ts G2) : OpensRow enc P W m (t :: ts) (fun cs => ∃ a b, cs = a ++ b ∧ G a ∧ G2 b) := by
  intro fuel hf cs xs hr
  cases hr with
  | cons hx hs => exact ⟨_, _, rfl, h fuel hf _ _ hx, h2 fuel hf _ _ hs⟩
theorem opens_struct {fs : Array Field} (ht : P.underlying t = some (.struct fs)) (hc : consec P 0 (P.cellsOf t) (fs.toList.map fun f => (f.offset, f.type)) = true)
    (h : OpensRow enc P W m (fs.toList.map (·.type)) G) : Opens enc P W (m + 1) t G := by
  intro fuel hf cs x hx
  obtain ⟨xs, n, rfl, rfl, hl, hn, hread⟩ := DataW.trod_struct ht hx
  have hr := fieldsRead_of (enc := enc) (P := P) (W := W) (n := n) hl (fs.toList.map fun f => (f.offset, f.type)) 0 xs (by simpa using hn) hc (Nat.zero_le _) (fun i off t hi => by
    rw [List.getElem?_map] at hi
    obtain ⟨f, hf, he⟩ := Option.map_eq_some_iff.1 hi
    obtain ⟨rfl, rfl⟩ := Prod.mk.inj he
    exact hread i f (by simpa using hf))
  rw [List.map_map] at hr
  have := h n (by omega) _ _ hr
  simpa using this
theorem opens_array {k : Nat} {e : TypeId} (ht : P.underlying t = some (.array k e)) (hc : consec P 0 (P.cellsOf t) ((List.range k).map fun i => (i * P.cellsOf e, e)) = true)
    (h : OpensRow enc P W m (List.replicate k e) G) : Opens enc P W (m + 1) t G := by
  intro fuel hf cs x hx
  obtain ⟨xs, n, rfl, rfl, hl, hn, hread⟩ := DataW.trod_array ht hx
  have hr := fieldsRead_of (enc := enc) (P := P) (W := W) (n := n) hl ((List.range k).map fun i => (i * P.cellsOf e, e)) 0 xs (by simpa using hn) hc (Nat.zero_le _) (fun i off t hi => by
    rw [List.getElem?_map] at hi
    obtain ⟨j, hj, he⟩ := Option.map_eq_some_iff.1 hi
    obtain ⟨rfl, rfl⟩ := Prod.mk.inj he
    have hik : i < k := by
      have := (List.getElem?_eq_some_iff.1 hj).1
      simpa using this
    have hji : j = i := by
      rw [List.getElem?_range hik] at hj
      exact (Option.some.inj hj).symm
    subst hji
    exact hread j hik)
  have e1 : ((List.range k).map fun i => (i * P.cellsOf e, e)).map (·.2) = List.replicate k e := by
    rw [List.map_map]
    apply List.ext_getElem (by simp)
    intro i h1 h2
    simp
  rw [e1] at hr
  have := h n (by omega) _ _ hr
  simpa using this
/-- Whatever the fuel: from one step more. -/
theorem opens_all (h : ∀ m, Opens enc P W (m + 1) t G) : ∀ m, Opens enc P W m t G := fun m => (h m).le (Nat.le_succ m)
/-- An argument, opened. -/
theorem opens_arg {v : Value} {x : DataW H} {p : List MemPlace} (h : ∀ m, Opens enc P W m t G) (hv : DataW.Trod enc P W 0 (fun _ => true) true t v x p) : G v.cells.toList := by
  obtain ⟨fuel, hf⟩ := hv
  exact h fuel fuel (Nat.le_refl _) _ _ hf
end
theorem okWide_agg {P : Program} {w : World} {r : Reach} {base : Nat} {t : TypeId} {v : Value} (ht : (∃ fs, P.underlying t = some (.struct fs)) ∨ ∃ n e, P.underlying t = some (.array n e)) (h : Value.okWide P w r base t v) : ∃ cs, v = .agg cs := by
  rcases ht with ⟨fs, ht⟩ | ⟨n, e, ht⟩
  · simp only [Value.okWide, ht] at h
    obtain ⟨cs, h1, _⟩ := h
    exact ⟨cs, h1⟩
  · simp only [Value.okWide, ht] at h
    obtain ⟨cs, h1, _⟩ := h
    exact ⟨cs, h1⟩
theorem repAgg {T : Type} {I : Interp T} {w : World} {M : Nat → Prop} {e : Nat → Option Nat} {xs : List (AV T)} {vs : List Value} (h : RepL I w M e xs vs) : Rep I w M e (.agg xs) (.agg vs.toArray) :=
  .agg _ _ (by simpa using h.1) (fun j x v hx hv => h.2 j x v hx (by simpa using hv))
end Go.Proofs.Ytamfgbenceoleaa.Opn
