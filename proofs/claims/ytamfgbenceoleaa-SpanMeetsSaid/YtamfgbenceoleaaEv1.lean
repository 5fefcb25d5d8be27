import Derived.Deep.Quiet
import Derived.Below
import Derived.Laws.CopyRow
import Derived.Laws.Tables
import Derived.Laws.Rows
namespace Go.Proofs.Ytamfgbenceoleaa.Ev
set_option linter.unusedVariables false
set_option linter.unusedSimpArgs false
set_option linter.unusedSectionVars false
set_option linter.unnecessarySimpa false
open Go.RowKit

/-- Values without addresses. 'T': tokens for the contents of slices that nobody writes. -/
inductive AV (T : Type) where
  | any
  | bool (b : Bool)
  | int (k : IntKind) (n : Int)
  | str (s : ByteArray)
  | nilp
  | ref (id off : Nat)
  | elt (xs : List (AV T)) (off : Nat)
  | slc (full : Bool) (t : T)
  | sli (sz : Nat) (xs : List (List (AV T)))
  | agg (xs : List (AV T))
  | tup (xs : List (AV T))
  | fn (f : Fn) (first captured : List (AV T))
  deriving Inhabited

mutual
/-- All variables that it points to have numbers below L. -/
def AV.und {T : Type} (L : Nat) : AV T → Bool
  | .ref id _ => Nat.blt id L
  | .elt xs _ => AV.undL L xs
  | .sli _ xs => AV.undLL L xs
  | .agg xs => AV.undL L xs
  | .tup xs => AV.undL L xs
  | .fn _ a b => AV.undL L a && AV.undL L b
  | _ => true
def AV.undL {T : Type} (L : Nat) : List (AV T) → Bool
  | [] => true
  | x :: r => AV.und L x && AV.undL L r
def AV.undLL {T : Type} (L : Nat) : List (List (AV T)) → Bool
  | [] => true
  | x :: r => AV.undL L x && AV.undLL L r
end
theorem belowL_get {T : Type} {L : Nat} : ∀ {xs : List (AV T)}, AV.undL L xs = true → ∀ {j : Nat} {x : AV T}, xs[j]? = some x → x.und L = true
  | [], _, j, x, h => by simp at h
  | y :: r, hb, 0, x, h => by simp only [AV.undL, Bool.and_eq_true] at hb; simp at h; subst h; exact hb.1
  | y :: r, hb, j + 1, x, h => by simp only [AV.undL, Bool.and_eq_true] at hb; simp at h; exact belowL_get hb.2 h
theorem belowLL_get {T : Type} {L : Nat} : ∀ {xs : List (List (AV T))}, AV.undLL L xs = true → ∀ {j : Nat} {x : List (AV T)}, xs[j]? = some x → AV.undL L x = true
  | [], _, j, x, h => by simp at h
  | y :: r, hb, 0, x, h => by simp only [AV.undLL, Bool.and_eq_true] at hb; simp at h; subst h; exact hb.1
  | y :: r, hb, j + 1, x, h => by simp only [AV.undLL, Bool.and_eq_true] at hb; simp at h; exact belowLL_get hb.2 h
theorem belowL_of {T : Type} {L : Nat} : ∀ {xs : List (AV T)}, (∀ x ∈ xs, x.und L = true) → AV.undL L xs = true
  | [], _ => rfl
  | y :: r, h => by simp only [AV.undL, Bool.and_eq_true]; exact ⟨h y (by simp), belowL_of fun x hx => h x (by simp [hx])⟩

/-- How tokens are read: the number of elements, the cells of one, its cells. -/
structure Interp (T : Type) where
  len : T → Nat
  sz : T → Nat
  cells : T → Nat → List (AV T)
  closed : ∀ t i L, AV.undL L (cells t i) = true

section
variable {T : Type} (I : Interp T)
/-- The value v, in the world w, is what x says. M: the blocks that may be written; e: the blocks of the variables. -/
inductive Rep (w : World) (M : Nat → Prop) (e : Nat → Option Nat) : AV T → Value → Prop
  | any (v) : Rep w M e .any v
  | bool (b) : Rep w M e (.bool b) (.bool b)
  | int (k n) : Rep w M e (.int k n) (.int k n)
  | str (s) : Rep w M e (.str s) (.string s)
  | nilp : Rep w M e .nilp (.pointer none)
  | ref (id off b : Nat) : e id = some b → Rep w M e (.ref id off) (.pointer (some ⟨b, off, none⟩))
  | elt (xs off b o) (vs : Nat → Value) : (∀ j x, xs[j]? = some x → ¬ M b ∧ w.cell? ⟨b, o + j, none⟩ = some (vs j)) → (∀ j x, xs[j]? = some x → Rep w M e x (vs j)) →
      Rep w M e (.elt xs off) (.pointer (some ⟨b, o + off, none⟩))
  | slcN (full t) : I.len t = 0 → Rep w M e (.slc full t) (.slice none 0 0)
  | slc (full t b o cap) (vs : Nat → Nat → Value) : I.len t ≤ cap → (full = true → I.len t = cap) →
      (∀ i j x, i < I.len t → (I.cells t i)[j]? = some x → ¬ M b ∧ w.cell? ⟨b, o + i * I.sz t + j, none⟩ = some (vs i j)) →
      (∀ i j x, i < I.len t → (I.cells t i)[j]? = some x → Rep w M e x (vs i j)) →
      Rep w M e (.slc full t) (.slice (some ⟨b, o, none⟩) (I.len t) cap)
  | sliN (sz) : Rep w M e (.sli sz []) (.slice none 0 0)
  | sli (sz xs b o) (vs : Nat → Nat → Value) :
      (∀ i j y x, xs[i]? = some y → y[j]? = some x → ¬ M b ∧ w.cell? ⟨b, o + i * sz + j, none⟩ = some (vs i j)) →
      (∀ i j y x, xs[i]? = some y → y[j]? = some x → Rep w M e x (vs i j)) →
      Rep w M e (.sli sz xs) (.slice (some ⟨b, o, none⟩) xs.length xs.length)
  | agg (xs vs) : xs.length = vs.size → (∀ (j : Nat) x v, xs[j]? = some x → vs[j]? = some v → Rep w M e x v) → Rep w M e (.agg xs) (.agg vs)
  | tup (xs vs) : xs.length = vs.size → (∀ (j : Nat) x v, xs[j]? = some x → vs[j]? = some v → Rep w M e x v) → Rep w M e (.tup xs) (.tuple vs)
  | fn (f xs ys as bs) : xs.length = as.size → ys.length = bs.size → (∀ (j : Nat) x v, xs[j]? = some x → as[j]? = some v → Rep w M e x v) → (∀ (j : Nat) x v, ys[j]? = some x → bs[j]? = some v → Rep w M e x v) →
      Rep w M e (.fn f xs ys) (.func f as bs)

/-- A list of them. -/
def RepL (w : World) (M : Nat → Prop) (e : Nat → Option Nat) (xs : List (AV T)) (vs : List Value) : Prop :=
  xs.length = vs.length ∧ ∀ (j : Nat) x v, xs[j]? = some x → vs[j]? = some v → Rep I w M e x v

variable {I}
theorem cell_lt {w : World} {a : Addr} {v : Value} (h : w.cell? a = some v) : a.block < w.heap.size := block_lt_of_cell h

/-- What is read stays read, where blocks that may not be written stay, and the variables keep their blocks. -/
theorem Rep.keep {w w' : World} {M M' : Nat → Prop} {e e' : Nat → Option Nat} (L : Nat) {x : AV T} {v : Value} (h : Rep I w M e x v) :
    (he : ∀ id b, id < L → e id = some b → e' id = some b) → (hM : ∀ b, b < w.heap.size → M' b → M b) → (hw : ∀ b, b < w.heap.size → ¬ M b → w'.heap[b]? = w.heap[b]?) → x.und L = true → Rep I w' M' e' x v := by
  have cellk : ∀ {b o : Nat} {u : Value}, (∀ b, b < w.heap.size → M' b → M b) → (∀ b, b < w.heap.size → ¬ M b → w'.heap[b]? = w.heap[b]?) → ¬ M b ∧ w.cell? ⟨b, o, none⟩ = some u → ¬ M' b ∧ w'.cell? ⟨b, o, none⟩ = some u := by
    intro b o u hM hw ⟨h1, h2⟩
    have hlt : b < w.heap.size := cell_lt h2
    exact ⟨fun hm => h1 (hM b hlt hm), by rw [World.cell?_of_block (w := w) (a := ⟨b, o, none⟩) (hw b hlt h1)]; exact h2⟩
  induction h with
  | any v => intros; exact .any _
  | bool b => intros; exact .bool _
  | int k n => intros; exact .int _ _
  | str s => intros; exact .str _
  | nilp => intros; exact .nilp
  | ref id off b h => intro he _ _ hb; simp only [AV.und] at hb; exact .ref _ _ _ (he id b (Nat.blt_eq.mp hb) h)
  | elt xs off b o vs h1 h2 ih => intro he hM hw hb; simp only [AV.und] at hb; exact .elt _ _ _ _ vs (fun j x hx => cellk hM hw (h1 j x hx)) (fun j x hx => ih j x hx he hM hw (belowL_get hb hx))
  | slcN full t h => intros; exact .slcN _ _ h
  | slc full t b o cap vs h1 h2 h3 h4 ih => intro he hM hw _; exact .slc _ _ _ _ _ vs h1 h2 (fun i j x hi hx => cellk hM hw (h3 i j x hi hx)) (fun i j x hi hx => ih i j x hi hx he hM hw (belowL_get (I.closed t i L) hx))
  | sliN sz => intros; exact .sliN _
  | sli sz xs b o vs h1 h2 ih => intro he hM hw hb; simp only [AV.und] at hb; exact .sli _ _ _ _ vs (fun i j y x hy hx => cellk hM hw (h1 i j y x hy hx)) (fun i j y x hy hx => ih i j y x hy hx he hM hw (belowL_get (belowLL_get hb hy) hx))
  | agg xs vs h1 h2 ih => intro he hM hw hb; simp only [AV.und] at hb; exact .agg _ _ h1 fun j x v hx hv => ih j x v hx hv he hM hw (belowL_get hb hx)
  | tup xs vs h1 h2 ih => intro he hM hw hb; simp only [AV.und] at hb; exact .tup _ _ h1 fun j x v hx hv => ih j x v hx hv he hM hw (belowL_get hb hx)
  | fn f xs ys as bs h1 h2 h3 h4 ih1 ih2 =>
    intro he hM hw hb; simp only [AV.und, Bool.and_eq_true] at hb
    exact .fn _ _ _ _ _ h1 h2 (fun j x v hx hv => ih1 j x v hx hv he hM hw (belowL_get hb.1 hx)) (fun j x v hx hv => ih2 j x v hx hv he hM hw (belowL_get hb.2 hx))

/-- From (w, M, e) to (w', M', e'): blocks that may not be written stay; variables keep their blocks; what may be written newly is new. -/
structure Ext (w : World) (M : Nat → Prop) (e : Nat → Option Nat) (w' : World) (M' : Nat → Prop) (e' : Nat → Option Nat) : Prop where
  size : w.heap.size ≤ w'.heap.size
  keep : ∀ b, b < w.heap.size → ¬ M b → w'.heap[b]? = w.heap[b]?
  emb : ∀ id b, e id = some b → e' id = some b
  wr : ∀ b, M' b → M b ∨ w.heap.size ≤ b
theorem Ext.refl (w : World) (M : Nat → Prop) (e : Nat → Option Nat) : Ext w M e w M e := ⟨Nat.le_refl _, fun _ _ _ => rfl, fun _ _ h => h, fun _ h => .inl h⟩
theorem Ext.trans {w w' w'' : World} {M M' M'' : Nat → Prop} {e e' e'' : Nat → Option Nat} (h : Ext w M e w' M' e') (k : Ext w' M' e' w'' M'' e'') : Ext w M e w'' M'' e'' :=
  ⟨Nat.le_trans h.size k.size, fun b hb hM => (k.keep b (Nat.lt_of_lt_of_le hb h.size) (fun hm => (h.wr b hm).elim hM (fun hle => absurd hb (Nat.not_lt.2 hle)))).trans (h.keep b hb hM),
   fun id b hb => k.emb id b (h.emb id b hb), fun b hb => (k.wr b hb).elim (fun h1 => h.wr b h1) (fun h2 => .inr (Nat.le_trans h.size h2))⟩
mutual
theorem below_big {T : Type} : ∀ (x : AV T), ∃ L, ∀ L', L ≤ L' → x.und L' = true
  | .ref id _ => ⟨id + 1, fun L' h => by simp only [AV.und]; exact Nat.blt_eq.mpr h⟩
  | .elt xs _ => by obtain ⟨L, h⟩ := belowL_big xs; exact ⟨L, fun L' hl => by simp only [AV.und]; exact h L' hl⟩
  | .sli _ xs => by obtain ⟨L, h⟩ := belowLL_big xs; exact ⟨L, fun L' hl => by simp only [AV.und]; exact h L' hl⟩
  | .agg xs => by obtain ⟨L, h⟩ := belowL_big xs; exact ⟨L, fun L' hl => by simp only [AV.und]; exact h L' hl⟩
  | .tup xs => by obtain ⟨L, h⟩ := belowL_big xs; exact ⟨L, fun L' hl => by simp only [AV.und]; exact h L' hl⟩
  | .fn _ a b => by
    obtain ⟨L1, h1⟩ := belowL_big a
    obtain ⟨L2, h2⟩ := belowL_big b
    exact ⟨L1 + L2, fun L' hl => by simp only [AV.und, Bool.and_eq_true]; exact ⟨h1 L' (by omega), h2 L' (by omega)⟩⟩
  | .any => ⟨0, fun _ _ => rfl⟩
  | .bool _ => ⟨0, fun _ _ => rfl⟩
  | .int _ _ => ⟨0, fun _ _ => rfl⟩
  | .str _ => ⟨0, fun _ _ => rfl⟩
  | .nilp => ⟨0, fun _ _ => rfl⟩
  | .slc _ _ => ⟨0, fun _ _ => rfl⟩
theorem belowL_big {T : Type} : ∀ (xs : List (AV T)), ∃ L, ∀ L', L ≤ L' → AV.undL L' xs = true
  | [] => ⟨0, fun _ _ => rfl⟩
  | x :: r => by
    obtain ⟨L1, h1⟩ := below_big x
    obtain ⟨L2, h2⟩ := belowL_big r
    exact ⟨L1 + L2, fun L' hl => by simp only [AV.undL, Bool.and_eq_true]; exact ⟨h1 L' (by omega), h2 L' (by omega)⟩⟩
theorem belowLL_big {T : Type} : ∀ (xs : List (List (AV T))), ∃ L, ∀ L', L ≤ L' → AV.undLL L' xs = true
  | [] => ⟨0, fun _ _ => rfl⟩
  | x :: r => by
    obtain ⟨L1, h1⟩ := belowL_big x
    obtain ⟨L2, h2⟩ := belowLL_big r
    exact ⟨L1 + L2, fun L' hl => by simp only [AV.undLL, Bool.and_eq_true]; exact ⟨h1 L' (by omega), h2 L' (by omega)⟩⟩
end
theorem Rep.ext {w w' : World} {M M' : Nat → Prop} {e e' : Nat → Option Nat} {x : AV T} {v : Value} (h : Rep I w M e x v) (hx : Ext w M e w' M' e') : Rep I w' M' e' x v := by
  obtain ⟨L, hL⟩ := below_big x
  exact h.keep L (fun id b _ hb => hx.emb id b hb) (fun b hb hm => (hx.wr b hm).elim id (fun h => absurd hb (Nat.not_lt.2 h))) hx.keep (hL L (Nat.le_refl _))
end
end Go.Proofs.Ytamfgbenceoleaa.Ev
