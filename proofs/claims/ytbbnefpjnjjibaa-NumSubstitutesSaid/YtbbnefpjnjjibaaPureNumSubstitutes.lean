/- If a variable gets the value of an expression, an expression has the value that it has with this expression in the place of the variable. Conditions: none beside the arguments' types and the row's own. -/
import Derived.Test.YtbbnefpjnjjibaaXSstNumSubstitutes
import Derived.Test.YtbbnefpjnjjibaaXStree
namespace Go.Proofs.Ytbbnefpjnjjibaa.Pure
open Go.RowKit Go.Proofs.Ytbbnefpjnjjibaa.XS Go.Proofs.Ytbbnefpjnjjibaa.Opn Go.Proofs.Ytbbnefpjnjjibaa.OpnS Go.Proofs.YtbbnefpjnjjibaaW.PrintWords Go.Proofs.YtbbnefpjnjjibaaW.PrintLast

abbrev PutEv (x : Tr) (n : Int) (e y : Tr) : Prop := Ev (fun k => paroleref01_Put.f k x.f0 x.f1 x.f2 x.f3 n e.f0 e.f1 e.f2 e.f3) (y.f0, y.f1, y.f2, y.f3)
theorem tr_eta (t : Tr) : t = ⟨t.f0, t.f1, t.f2, t.f3⟩ := by cases t; rfl
/-- The loop of Put: from element i on, with what is done so far. -/
theorem put_loop (a b c n : Int) (l : List Tr) (e : Tr) (hl : l.length ≤ 2932031007317) (ih : ∀ y ∈ l, ∃ z, PutEv y n e z) (d : Nat) :
    ∀ (i : Int) (done : List Tr), 0 ≤ i → i ≤ (l.length : Int) → (l.length : Int) - i = d → (done.length : Int) = i → ∃ rest : List Tr, rest.length = d ∧ (∀ j : Nat, j < d → ∃ z, rest[j]? = some z ∧ PutEv (rd_T29 l (i + j)) n e z) ∧
      Ev (fun k => paroleref01_Put.l0 k n done i a b c l e.f0 e.f1 e.f2 e.f3) (a, b, c, done ++ rest) := by
  induction d with
  | zero =>
    intro i done h0 h1 hd hn
    refine ⟨[], rfl, fun j hj => by omega, ?_⟩
    rw [List.append_nil]
    exact Ev.step (f := fun _ => some (a, b, c, done)) (fun k => by simp only [paroleref01_Put.l0]; rw [if_neg (by omega)]) (Ev.now _)
  | succ d ihd =>
    intro i done h0 h1 hd hn
    have hlt : i < (l.length : Int) := by omega
    obtain ⟨z, hz⟩ := ih _ (rd_mem l i h0 hlt)
    obtain ⟨rest, hr, hall, hev⟩ := ihd (i + 1) (done ++ [z]) (by omega) (by omega) (by omega) (by rw [List.length_append, List.length_singleton]; omega)
    refine ⟨z :: rest, by simp [hr], ?_, ?_⟩
    · intro j hj
      cases j with
      | zero => exact ⟨z, rfl, by simpa using hz⟩
      | succ j =>
        obtain ⟨y, hy, hp⟩ := hall j (by omega)
        refine ⟨y, by simpa using hy, ?_⟩
        have e1 : i + ((j + 1 : Nat) : Int) = i + 1 + (j : Int) := by omega
        rw [e1]; exact hp
    · refine Ev.step (f := fun k => (paroleref01_Put.f k (rd_T29 l i).f0 (rd_T29 l i).f1 (rd_T29 l i).f2 (rd_T29 l i).f3 n e.f0 e.f1 e.f2 e.f3).bind fun t => paroleref01_Put.l0 k n (done ++ [(⟨t.1, t.2.1, t.2.2.1, t.2.2.2⟩ : Tr)]) (i + 1) a b c l e.f0 e.f1 e.f2 e.f3) (fun k => ?_) (Ev.bind hz ?_)
      · simp only [paroleref01_Put.l0]
        rw [if_pos hlt, if_pos h0, w64_next h0 hlt (by omega)]
        congr 1
        funext t
        rw [if_pos (by omega)]
      · rw [← List.append_cons] at hev
        cases z
        exact hev
theorem put_hit (x e : Tr) (n : Int) (h : x.f0 = 2 ∧ x.f1 = n) : PutEv x n e e := by
  refine Ev.step (f := fun k => paroleref01_Put.j0 k n true x.f0 x.f1 x.f2 x.f3 e.f0 e.f1 e.f2 e.f3) (fun k => ?_) (Ev.step (f := fun _ => some (e.f0, e.f1, e.f2, e.f3)) (fun k => by simp only [paroleref01_Put.j0, if_true]) (Ev.now _))
  simp only [paroleref01_Put.f]
  rw [if_pos h.1, beq_iff_eq.mpr h.2]
theorem put_miss (x e : Tr) (n : Int) (h : ¬ (x.f0 = 2 ∧ x.f1 = n)) {y : Int × Int × Int × List Tr} (hl : Ev (fun k => paroleref01_Put.l0 k n [] 0 x.f0 x.f1 x.f2 x.f3 e.f0 e.f1 e.f2 e.f3) y) :
    Ev (fun k => paroleref01_Put.f k x.f0 x.f1 x.f2 x.f3 n e.f0 e.f1 e.f2 e.f3) y := by
  refine Ev.step (f := fun k => paroleref01_Put.j0 k n false x.f0 x.f1 x.f2 x.f3 e.f0 e.f1 e.f2 e.f3) (fun k => ?_) (Ev.step (fun k => by simp only [paroleref01_Put.j0]; rw [if_neg (by decide)]) hl)
  simp only [paroleref01_Put.f]
  by_cases h2 : x.f0 = 2
  · rw [if_pos h2, beq_eq_false_iff_ne.mpr (fun h3 => h ⟨h2, h3⟩)]
  · rw [if_neg h2]
theorem put_kid {l r : List Tr} {n : Int} {e : Tr} (hlen : r.length = l.length) (hall : ∀ j : Nat, j < l.length → ∃ z, r[j]? = some z ∧ PutEv (rd_T29 l (0 + j)) n e z) (i : Int) (h0 : 0 ≤ i) :
    (kid l i = ⟨0, 0, 0, []⟩ ∧ kid r i = ⟨0, 0, 0, []⟩) ∨ (kid l i ∈ l ∧ PutEv (kid l i) n e (kid r i)) := by
  unfold kid
  by_cases h : i < (l.length : Int)
  · right
    rw [if_pos h, if_pos (by omega)]
    obtain ⟨z, hz, hp⟩ := hall i.toNat (by omega)
    have e1 : (0 : Int) + (i.toNat : Int) = i := by omega
    rw [e1] at hp
    have e2 : rd_T29 r i = z := by
      unfold rd_T29
      rw [List.getD_eq_getElem?_getD, hz]; rfl
    rw [e2]
    exact ⟨rd_mem l i h0 h, hp⟩
  · left
    rw [if_neg h, if_neg (by omega)]
    exact ⟨rfl, rfl⟩
/-- What Put gives, has the value that the expression has behind the assignment. -/
theorem put_eval (m : Nat) (n v : Int) (e : Tr) (vars after lens : List Int) (he : EvalEv e vars lens v) (hv : wrap32 (elt after n) = v) (ho : ∀ j, j ≠ n → elt after j = elt vars j) :
    ∀ x : Tr, sizeE x ≤ m → GoodE x → ∃ y, PutEv x n e y ∧ ∃ r, EvalEv y vars lens r ∧ EvalEv x after lens r := by
  induction m with
  | zero => intro x hx _; rw [sizeE_eq] at hx; omega
  | succ m ih =>
    intro x hx hg
    by_cases hit : x.f0 = 2 ∧ x.f1 = n
    · refine ⟨e, put_hit x e n hit, v, he, Ev.step (f := fun _ => some v) (fun k => ?_) (Ev.now _)⟩
      rw [eval_step, if_neg (by omega), if_pos hit.1, hit.2, hv]
    · obtain ⟨rest, hr, hall, hev⟩ := put_loop x.f0 x.f1 x.f2 n x.f3 e (good_len hg) (fun y hy => by
        obtain ⟨z, hz, _⟩ := ih y (by have := size_sub hy; omega) (good_sub hg hy)
        exact ⟨z, hz⟩) x.f3.length 0 [] (by omega) (by omega) (by omega) rfl
      rw [List.nil_append] at hev
      refine ⟨⟨x.f0, x.f1, x.f2, rest⟩, put_miss x e n hit hev, ?_⟩
      by_cases hop : 4 ≤ x.f0 ∧ x.f0 ≤ 10
      · have sub : ∀ i : Int, 0 ≤ i → ∃ r, EvalEv (kid rest i) vars lens r ∧ EvalEv (kid x.f3 i) after lens r := by
          intro i h0
          rcases put_kid hr hall i h0 with ⟨h1, h2⟩ | ⟨h1, h2⟩
          · rw [h1, h2]; exact ⟨0, eval_zero _ _, eval_zero _ _⟩
          · obtain ⟨y, hy, r, hr1, hr2⟩ := ih (kid x.f3 i) (by have := size_sub h1; omega) (good_sub hg h1)
            obtain ⟨K1, hK1⟩ := h2
            obtain ⟨K2, hK2⟩ := hy
            have hyy := Option.some.inj ((hK1 (max K1 K2) (by omega)).symm.trans (hK2 (max K1 K2) (by omega)))
            have : kid rest i = y := by
              obtain ⟨y0, y1, y2, y3⟩ := y
              rw [tr_eta (kid rest i)]
              simp only [Prod.mk.injEq] at hyy
              rw [hyy.1, hyy.2.1, hyy.2.2.1, hyy.2.2.2]
            rw [this]
            exact ⟨r, hr1, hr2⟩
        obtain ⟨a, ha1, ha2⟩ := sub 0 (by decide)
        obtain ⟨b, hb1, hb2⟩ := sub 1 (by decide)
        obtain ⟨r, hr, _⟩ := op_val x.f0 a b
        exact ⟨r, eval_of_ops (x := ⟨x.f0, x.f1, x.f2, rest⟩) ha1 hb1 hop hr, eval_of_ops ha2 hb2 hop hr⟩
      · by_cases h1 : x.f0 = 1
        · exact ⟨wrap32 x.f2, Ev.step (f := fun _ => some (wrap32 x.f2)) (fun k => by rw [eval_step, if_pos h1]) (Ev.now _), Ev.step (f := fun _ => some (wrap32 x.f2)) (fun k => by rw [eval_step, if_pos h1]) (Ev.now _)⟩
        by_cases h2 : x.f0 = 2
        · refine ⟨wrap32 (elt vars x.f1), Ev.step (f := fun _ => some (wrap32 (elt vars x.f1))) (fun k => by rw [eval_step, if_neg h1, if_pos h2]) (Ev.now _), Ev.step (f := fun _ => some (wrap32 (elt vars x.f1))) (fun k => by rw [eval_step, if_neg h1, if_pos h2, ho _ (fun h => hit ⟨h2, h⟩)]) (Ev.now _)⟩
        by_cases h3 : x.f0 = 3
        · exact ⟨wrap32 (elt lens x.f1), Ev.step (f := fun _ => some (wrap32 (elt lens x.f1))) (fun k => by rw [eval_step, if_neg h1, if_neg h2, if_pos h3]) (Ev.now _), Ev.step (f := fun _ => some (wrap32 (elt lens x.f1))) (fun k => by rw [eval_step, if_neg h1, if_neg h2, if_pos h3]) (Ev.now _)⟩
        · exact ⟨0, Ev.step (f := fun _ => some 0) (fun k => by rw [eval_step, if_neg h1, if_neg h2, if_neg h3, if_neg hop]) (Ev.now _), Ev.step (f := fun _ => some 0) (fun k => by rw [eval_step, if_neg h1, if_neg h2, if_neg h3, if_neg hop]) (Ev.now _)⟩
theorem subst_j0_yes (n : Int) (vars : List Int) (a b c : Int) (l : List Tr) (a' b' c' : Int) (l' : List Tr) : Ev (fun k => parolelaw01_NumSubstitutes.j0 k n vars true true a b c l a' b' c' l') true :=
  Ev.step (f := fun _ => some true) (fun k => by simp only [parolelaw01_NumSubstitutes.j0, if_true]) (Ev.now _)
theorem NumSubstitutes : parolelaw01_NumSubstitutes.PureX := by
  intro a b c l a' b' c' l' n vars hn hvars hg hg'
  have hn0 : 0 ≤ n ∧ n ≤ 255 := bounds_u8 hn
  have en : wrap64 n = n := by unfold wrap64; omega
  have hvl : vars.length * 8 ≤ 140737488351232 := by
    have h := hvars.1
    have e : Try.prog.bytesOf 3 = 8 := by kernel_rfl
    rw [e] at h
    exact h
  have hx : Ev (fun k => parolelaw01_examples.f k) true := Ev.of (fun k => parolelaw01_examples.mono k) examples_ok
  obtain ⟨s1, hs1⟩ := size_total _ ⟨a, b, c, l⟩ (Nat.le_refl _) hg
  obtain ⟨s2, hs2⟩ := size_total _ ⟨a', b', c', l'⟩ (Nat.le_refl _) hg'
  apply Ev.rounds
  unfold parolelaw01_NumSubstitutes.f
  refine Ev.bind hx ?_
  simp only [if_true]
  refine Ev.bind (f := fun k t => if t > 100 then parolelaw01_NumSubstitutes.j0 k n vars true true a b c l a' b' c' l' else (paroleref01_Size.f k a' b' c' l').bind fun t => if t > 100 then parolelaw01_NumSubstitutes.j0 k n vars true true a b c l a' b' c' l' else if (vars.length : Int) > 20 then parolelaw01_NumSubstitutes.j0 k n vars true true a b c l a' b' c' l' else parolelaw01_NumSubstitutes.j0 k n vars true (decide (wrap64 n ≥ (vars.length : Int))) a b c l a' b' c' l') hs1 ?_
  by_cases c1 : s1 > 100
  · simp only [if_pos c1]; exact subst_j0_yes ..
  simp only [if_neg c1]
  refine Ev.bind (f := fun k t => if t > 100 then parolelaw01_NumSubstitutes.j0 k n vars true true a b c l a' b' c' l' else if (vars.length : Int) > 20 then parolelaw01_NumSubstitutes.j0 k n vars true true a b c l a' b' c' l' else parolelaw01_NumSubstitutes.j0 k n vars true (decide (wrap64 n ≥ (vars.length : Int))) a b c l a' b' c' l') hs2 ?_
  by_cases c2 : s2 > 100
  · simp only [if_pos c2]; exact subst_j0_yes ..
  simp only [if_neg c2]
  by_cases c3 : (vars.length : Int) > 20
  · simp only [if_pos c3]; exact subst_j0_yes ..
  simp only [if_neg c3]
  rw [en]
  by_cases c4 : n ≥ (vars.length : Int)
  · rw [decide_eq_true c4]; exact subst_j0_yes ..
  rw [decide_eq_false c4]
  obtain ⟨v, hv, vv⟩ := eval_total _ vars [] ⟨a', b', c', l'⟩ (Nat.le_refl _)
  have hlt : n.toNat < vars.length := by omega
  obtain ⟨y, hy, r, hr1, hr2⟩ := put_eval _ n v ⟨a', b', c', l'⟩ vars (vars.set n.toNat v) [] hv (by
      unfold elt rd
      rw [if_pos (by rw [List.length_set]; omega), List.getD_eq_getElem?_getD, List.getElem?_set_self hlt]
      exact wrap32_of v vv.1 vv.2) (fun j hj => by
      unfold elt rd
      rw [List.length_set]
      by_cases h : 0 ≤ j ∧ j < (vars.length : Int)
      · rw [if_pos h, if_pos h, List.getD_eq_getElem?_getD, List.getD_eq_getElem?_getD, List.getElem?_set_ne (by omega)]
      · rw [if_neg h, if_neg h]) ⟨a, b, c, l⟩ (Nat.le_refl _) hg
  refine Ev.step (f := fun k => (num_Eval.f k a' b' c' l' vars []).bind fun t => (paroleref01_Put.f k a b c l n a' b' c' l').bind fun bt => (num_Eval.f k bt.1 bt.2.1 bt.2.2.1 bt.2.2.2 vars []).bind fun u => (num_Eval.f k a b c l (vars.set n.toNat t) []).bind fun w => if u = w then some true else some false) (fun k => ?_) (Ev.bind hv (Ev.bind hy (Ev.bind hr1 (Ev.bind (f := fun _ w => if r = w then some true else some false) hr2 (by rw [if_pos rfl]; exact Ev.now _)))))
  simp only [parolelaw01_NumSubstitutes.j0]
  rw [if_neg (by decide)]
  simp only [Option.bind_some, List.nil_append, List.length_nil, Nat.zero_add]
  rw [if_pos (by omega)]
  congr 1
  funext t
  rw [if_pos hn0.1, if_pos (by omega), en]
end Go.Proofs.Ytbbnefpjnjjibaa.Pure
