/- Trees of expressions: sizes and values come to an end, with enough rounds; what Put gives. Conditions: the trees were read (GoodE). -/
import Derived.Test.YtbbnefpjnjjibaaXSf3
import Derived.Test.YtbbnefpjnjjibaaXSf1
import Derived.Test.YtbbnefpjnjjibaaXSexpr
import Derived.Test.YtbbnefpjnjjibaaXSlem
namespace Go.Proofs.Ytbbnefpjnjjibaa.Pure
open Go.RowKit Go.Proofs.Ytbbnefpjnjjibaa.XS Go.Proofs.Ytbbnefpjnjjibaa.OpnS Go.Proofs.YtbbnefpjnjjibaaW.PrintWords Go.Proofs.YtbbnefpjnjjibaaW.PrintLast

abbrev Tr := S29
theorem w64_next {i : Int} {n : Nat} (h0 : 0 ≤ i) (h : i < (n : Int)) (hn : n ≤ 140737488351232) : wrap64 (i + 1) = i + 1 := by unfold wrap64; omega
theorem good_len {x : Tr} (h : GoodE x) : x.f3.length ≤ 2932031007317 := by cases h; omega
theorem good_sub {x y : Tr} (h : GoodE x) (hy : y ∈ x.f3) : GoodE y := by cases h with | mk _ _ _ _ hs => exact hs y hy
theorem size_sub {x y : Tr} (hy : y ∈ x.f3) : sizeE y < sizeE x := by
  rw [sizeE_eq x]
  have : ∀ l : List Tr, y ∈ l → sizeE y ≤ (l.map sizeE).sum := by
    intro l
    induction l with
    | nil => intro h; cases h
    | cons a r ih =>
      intro h
      simp only [List.map_cons, List.sum_cons]
      cases List.mem_cons.1 h with
      | inl e => subst e; omega
      | inr e => have := ih e; omega
  have := this _ hy
  omega
theorem rd_mem (l : List Tr) (i : Int) (h0 : 0 ≤ i) (h1 : i < (l.length : Int)) : rd_T29 l i ∈ l := by
  unfold rd_T29
  have h : i.toNat < l.length := by omega
  rw [List.getD_eq_getElem?_getD, List.getElem?_eq_getElem h]
  exact List.getElem_mem h

theorem size_loop (a b c : Int) (l : List Tr) (hl : l.length ≤ 140737488351232) (ih : ∀ y ∈ l, ∃ s, Ev (fun k => paroleref01_Size.f k y.f0 y.f1 y.f2 y.f3) s) (d : Nat) :
    ∀ (i acc : Int), 0 ≤ i → i ≤ (l.length : Int) → (l.length : Int) - i = d → ∃ s, Ev (fun k => paroleref01_Size.l0 k acc i a b c l) s := by
  induction d with
  | zero =>
    intro i acc h0 h1 hd
    exact ⟨acc, Ev.step (f := fun _ => some acc) (fun k => by simp only [paroleref01_Size.l0]; rw [if_neg (by omega)]) (Ev.now acc)⟩
  | succ d ihd =>
    intro i acc h0 h1 hd
    have hlt : i < (l.length : Int) := by omega
    obtain ⟨s, hs⟩ := ih _ (rd_mem l i h0 hlt)
    obtain ⟨r, hr⟩ := ihd (i + 1) (wrap64 (acc + s)) (by omega) (by omega) (by omega)
    refine ⟨r, Ev.step (f := fun k => (paroleref01_Size.f k (rd_T29 l i).f0 (rd_T29 l i).f1 (rd_T29 l i).f2 (rd_T29 l i).f3).bind fun t => paroleref01_Size.l0 k (wrap64 (acc + t)) (i + 1) a b c l) (fun k => ?_) (Ev.bind hs hr)⟩
    simp only [paroleref01_Size.l0]
    rw [if_pos hlt, if_pos h0, w64_next h0 hlt hl]
theorem size_total (n : Nat) : ∀ x : Tr, sizeE x ≤ n → GoodE x → ∃ s, Ev (fun k => paroleref01_Size.f k x.f0 x.f1 x.f2 x.f3) s := by
  induction n with
  | zero => intro x hx _; rw [sizeE_eq] at hx; omega
  | succ n ih =>
    intro x hx hg
    obtain ⟨s, hs⟩ := size_loop x.f0 x.f1 x.f2 x.f3 (by have := good_len hg; omega) (fun y hy => ih y (by have := size_sub hy; omega) (good_sub hg hy)) x.f3.length 0 1 (by omega) (by omega) (by omega)
    exact ⟨s, Ev.step (fun k => by simp only [paroleref01_Size.f]) hs⟩

/-- The operands of an operator, or zero. -/
def kid (l : List Tr) (i : Int) : Tr := if i < (l.length : Int) then rd_T29 l i else ⟨0, 0, 0, []⟩
theorem at_kid (l : List Tr) (i : Int) (h0 : 0 ≤ i) : api_Expr.f l i = some ((kid l i).f0, (kid l i).f1, (kid l i).f2, (kid l i).f3) := by
  unfold api_Expr.f kid
  rw [if_pos h0]
  by_cases h : i < (l.length : Int)
  · rw [if_pos h, if_pos h0, if_pos h]
  · rw [if_neg h, if_neg h]
theorem wrap_val (x : Int) : num_Wrap.f x = some (wrap32 x) := by
  unfold num_Wrap.f
  have := wrap32_range x
  have e : wrap64 (wrap32 x) = wrap32 x := by unfold wrap64; omega
  rw [e]
/-- An element, or 0. -/
def elt (l : List Int) (i : Int) : Int := if 0 ≤ i ∧ i < (l.length : Int) then rd l i else 0
theorem at_elt (l : List Int) (i : Int) : num_at_int.f l i = some (elt l i) := by
  unfold num_at_int.f elt
  by_cases h0 : i ≥ 0
  · rw [if_pos h0]
    by_cases h1 : i < (l.length : Int)
    · rw [if_pos h1, if_pos h0, if_pos ⟨h0, h1⟩]
    · rw [if_neg h1, if_neg (fun h => h1 h.2)]
  · rw [if_neg h0, if_neg (fun h => h0 h.1)]
theorem binary_is (op : Int) : num_binary.f op = some (decide (4 ≤ op ∧ op ≤ 10)) := by
  unfold num_binary.f
  by_cases h : op ≥ 4
  · rw [if_pos h]; congr 1; rw [decide_eq_decide]; omega
  · rw [if_neg h]; congr 1; rw [eq_comm, decide_eq_false_iff_not]; omega
/-- What Eval is, one step. -/
theorem eval_step (k : Nat) (op n v : Int) (l : List Tr) (vars lens : List Int) : num_Eval.f (k + 1) op n v l vars lens =
    if op = 1 then some (wrap32 v) else if op = 2 then some (wrap32 (elt vars n)) else if op = 3 then some (wrap32 (elt lens n)) else
      if 4 ≤ op ∧ op ≤ 10 then (num_Eval.f k (kid l 0).f0 (kid l 0).f1 (kid l 0).f2 (kid l 0).f3 vars lens).bind fun a => (num_Eval.f k (kid l 1).f0 (kid l 1).f1 (kid l 1).f2 (kid l 1).f3 vars lens).bind fun b => num_Op.f op a b
      else some 0 := by
  simp only [num_Eval.f, wrap_val, at_elt, binary_is, Option.bind_some, at_kid l 0 (by decide), at_kid l 1 (by decide), decide_eq_true_eq]
  simp only [Option.bind_fun_some]
abbrev EvalEv (x : Tr) (vars lens : List Int) (r : Int) : Prop := Ev (fun k => num_Eval.f k x.f0 x.f1 x.f2 x.f3 vars lens) r
theorem op_val (op a b : Int) : ∃ r, num_Op.f op a b = some r ∧ Val r := ⟨_, rfl, wrap32_range _⟩
theorem val_0 : Val 0 := by unfold Val; omega
theorem kid_size (x : Tr) (i : Int) (h0 : 0 ≤ i) : kid x.f3 i = ⟨0, 0, 0, []⟩ ∨ (kid x.f3 i ∈ x.f3) := by
  unfold kid
  by_cases h : i < (x.f3.length : Int)
  · rw [if_pos h]; exact .inr (rd_mem _ _ h0 h)
  · rw [if_neg h]; exact .inl rfl
theorem eval_zero (vars lens : List Int) : EvalEv ⟨0, 0, 0, []⟩ vars lens 0 := by
  refine Ev.step (f := fun _ => some 0) (fun k => ?_) (Ev.now 0)
  simp only [eval_step]
  rw [if_neg (by decide), if_neg (by decide), if_neg (by decide), if_neg (by decide)]
theorem eval_of_ops {x : Tr} {vars lens : List Int} {a b : Int} (ha : EvalEv (kid x.f3 0) vars lens a) (hb : EvalEv (kid x.f3 1) vars lens b) (hop : 4 ≤ x.f0 ∧ x.f0 ≤ 10) {r : Int} (hr : num_Op.f x.f0 a b = some r) : EvalEv x vars lens r := by
  refine Ev.step (f := fun k => (num_Eval.f k (kid x.f3 0).f0 (kid x.f3 0).f1 (kid x.f3 0).f2 (kid x.f3 0).f3 vars lens).bind fun a => (num_Eval.f k (kid x.f3 1).f0 (kid x.f3 1).f1 (kid x.f3 1).f2 (kid x.f3 1).f3 vars lens).bind fun b => num_Op.f x.f0 a b) (fun k => ?_) (Ev.bind ha (Ev.bind (f := fun _ b => num_Op.f x.f0 a b) hb (by rw [hr]; exact Ev.now r)))
  rw [eval_step, if_neg (by omega), if_neg (by omega), if_neg (by omega), if_pos hop]
theorem eval_total (n : Nat) (vars lens : List Int) : ∀ x : Tr, sizeE x ≤ n → ∃ r, EvalEv x vars lens r ∧ Val r := by
  induction n with
  | zero => intro x hx; rw [sizeE_eq] at hx; omega
  | succ n ih =>
    intro x hx
    by_cases hop : 4 ≤ x.f0 ∧ x.f0 ≤ 10
    · have sub : ∀ i : Int, 0 ≤ i → ∃ r, EvalEv (kid x.f3 i) vars lens r := by
        intro i h0
        rcases kid_size x i h0 with h | h
        · rw [h]; exact ⟨0, eval_zero _ _⟩
        · obtain ⟨r, hr, _⟩ := ih (kid x.f3 i) (by have := size_sub h; omega)
          exact ⟨r, hr⟩
      obtain ⟨a, ha⟩ := sub 0 (by decide)
      obtain ⟨b, hb⟩ := sub 1 (by decide)
      obtain ⟨r, hr, hv⟩ := op_val x.f0 a b
      exact ⟨r, eval_of_ops ha hb hop hr, hv⟩
    · by_cases h1 : x.f0 = 1
      · exact ⟨_, Ev.step (f := fun _ => some (wrap32 x.f2)) (fun k => by rw [eval_step, if_pos h1]) (Ev.now _), wrap32_range _⟩
      by_cases h2 : x.f0 = 2
      · exact ⟨_, Ev.step (f := fun _ => some (wrap32 (elt vars x.f1))) (fun k => by rw [eval_step, if_neg h1, if_pos h2]) (Ev.now _), wrap32_range _⟩
      by_cases h3 : x.f0 = 3
      · exact ⟨_, Ev.step (f := fun _ => some (wrap32 (elt lens x.f1))) (fun k => by rw [eval_step, if_neg h1, if_neg h2, if_pos h3]) (Ev.now _), wrap32_range _⟩
      · exact ⟨0, Ev.step (f := fun _ => some 0) (fun k => by rw [eval_step, if_neg h1, if_neg h2, if_neg h3, if_neg hop]) (Ev.now _), val_0⟩
end Go.Proofs.Ytbbnefpjnjjibaa.Pure
