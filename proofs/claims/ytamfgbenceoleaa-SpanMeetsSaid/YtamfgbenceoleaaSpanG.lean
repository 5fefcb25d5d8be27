import Derived.Test.YtamfgbenceoleaaSpanG0
/-! The contract of gcd: two loops. -/
namespace Go.Proofs.Ytamfgbenceoleaa.Span
set_option linter.unusedVariables false
set_option linter.unusedSimpArgs false
set_option linter.unusedSectionVars false
set_option linter.unnecessarySimpa false
open Go.Proofs.Ytamfgbenceoleaa.Ev Go.RowKit
set_option maxRecDepth 100000
theorem gcd4 (a b n i : Int) (f : Bool) (t : Tok) (F : List V → Hp Tok → Option (Lf Tok)) : evTurn Itp Try.prog (fromList L1) gk glsp Try.f48 4 0 F [iA a, iA b, .slc f t, iA n, iA i] [] =
    bif b != 0 then bif !decide (b = 0) then F [AV.int IntKind.i64 b, AV.int IntKind.i64 (a.tmod b), AV.slc f t, AV.int IntKind.i64 n, AV.int IntKind.i64 i] [] else none else some (X.exit 2, [AV.int IntKind.i64 a, AV.slc f t, AV.int IntKind.i64 n, AV.int IntKind.i64 i], []) := by
  kernel_rfl
theorem gcd2 (a n i : Int) (f : Bool) (l : List Int) (F : List V → Hp Tok → Option (Lf Tok)) : evTurn Itp Try.prog (fromList L1) gk glsp Try.f48 2 0 F [iA a, .slc f (.ints l), iA n, iA i] [] =
    bif decide (i < n) then bif decide (0 ≤ i) && decide (i < (↑(Itp.len (Tok.ints l)) : Int)) then bif okV a && okV (l.getD i.toNat 0) then F [AV.int IntKind.i64 (euF a (l.getD i.toNat 0)), AV.slc f (Tok.ints l), AV.int IntKind.i64 n, AV.int IntKind.i64 (IntKind.i64.wrap (i + 1))] [] else none else none else some (X.exit 0, [AV.int IntKind.i64 a], []) := by
  kernel_rfl
theorem gcd_ev (a : Int) (l : List Int) : evFn Itp Try.prog (fromList L1) gk glsp Try.f48 [iA a, .slc true (.ints l)] some =
    bif okV a && (okL l && (decide ((↑(Itp.len (Tok.ints l)) : Int) = (↑l.length : Int)) && true)) then bif okV (foldE a (List.drop 0 l)) then some (AV.int IntKind.i64 (absI (foldE a (List.drop 0 l)))) else none else none := by
  kernel_rfl
theorem gl4_ok (env : List V) (hp : Hp Tok) (l : Lf Tok) (hh : (gl4 env hp).Has l) : ∃ n, evBody Itp Try.prog (fromList L1) gk glsp Try.f48 4 hp.length n env hp = some l := by
  unfold gl4 at hh
  split at hh
  · rename_i a b f t n i
    obtain ⟨h, hv⟩ := has_br hh
    cases hv
    simp only [Bool.and_eq_true] at h
    have key : ∀ (k : Nat) (a b : Int), b.natAbs < k → ∃ m, evBody Itp Try.prog (fromList L1) gk glsp Try.f48 4 0 m [iA a, iA b, .slc f t, iA n, iA i] [] = some (.exit 2, [iA (euF a b), .slc f t, iA n, iA i], []) := by
      intro k
      induction k with
      | zero => intro a b hb; exact absurd hb (Nat.not_lt_zero _)
      | succ k ih =>
        intro a b hb
        by_cases h0 : b = 0
        · subst h0
          exact ⟨1, by rw [evBody_succ, gcd4]; rfl⟩
        · have hlt : (a.tmod b).natAbs < b.natAbs := by rw [Int.natAbs_tmod]; exact Nat.mod_lt _ (by omega)
          obtain ⟨m, hm⟩ := ih b (a.tmod b) (by omega)
          refine ⟨m + 1, ?_⟩
          rw [evBody_succ, gcd4, euF_step a b h0, ← hm]
          rw [show (b != 0) = true by simpa using h0, show decide (b = 0) = false by simpa using h0]
          rfl
    exact key (b.natAbs + 1) a b (by omega)
  · exact hh.elim
theorem gl2_ok (env : List V) (hp : Hp Tok) (l : Lf Tok) (hh : (gl2 env hp).Has l) : ∃ n, evBody Itp Try.prog (fromList L1) gk glsp Try.f48 2 hp.length n env hp = some l := by
  unfold gl2 at hh
  split at hh
  · rename_i a f l n i
    obtain ⟨h, hv⟩ := has_br hh
    have hv := has_ret hv
    subst hv
    have h' := h
    simp only [Bool.and_eq_true, decide_eq_true_eq, okL] at h'
    obtain ⟨ha, ⟨hl, hlen⟩, hn, hi⟩ := h'
    clear h
    subst hn
    have key : ∀ (k : Nat) (a : Int) (i : Int), okV a = true → 0 ≤ i → l.length - i.toNat < k → ∃ m, evBody Itp Try.prog (fromList L1) gk glsp Try.f48 2 0 m [iA a, .slc f (.ints l), iA l.length, iA i] [] = some (.exit 0, [iA (foldE a (l.drop i.toNat))], []) := by
      intro k
      induction k with
      | zero => intro a i _ _ hb; exact absurd hb (Nat.not_lt_zero _)
      | succ k ih =>
        intro a i ha hi hb
        by_cases h0 : i < l.length
        · have hin : i.toNat < l.length := by omega
          have hget : l.getD i.toNat 0 = l[i.toNat] := by simp [List.getD_eq_getElem?_getD, List.getElem?_eq_getElem hin]
          have hok : okV l[i.toNat] = true := List.all_eq_true.1 hl _ (List.getElem_mem hin)
          have hw : IntKind.i64.wrap (i + 1) = i + 1 := wrap_of (by omega) (by omega)
          obtain ⟨m, hm⟩ := ih (euF a l[i.toNat]) (i + 1) (euF_ok a _ ha hok) (by omega) (by omega)
          refine ⟨m + 1, ?_⟩
          rw [evBody_succ, gcd2, hw, hget]
          have hd : l.drop i.toNat = l[i.toNat] :: l.drop (i + 1).toNat := by
            rw [List.drop_eq_getElem_cons hin, show (i + 1).toNat = i.toNat + 1 by omega]
          rw [hd, show foldE a (l[i.toNat] :: l.drop (i + 1).toNat) = foldE (euF a l[i.toNat]) (l.drop (i + 1).toNat) from rfl, ← hm]
          simp only [show Itp.len (Tok.ints l) = l.length from rfl, h0, hi, ha, hok, decide_true, Bool.and_self, cond_true]
        · have hd : l.drop i.toNat = [] := List.drop_eq_nil_of_le (by omega)
          refine ⟨1, ?_⟩
          rw [evBody_succ, gcd2, hd]
          simp [h0, foldE]
    exact key (l.length - i.toNat + 1) a i ha hi (by omega)
  · exact hh.elim
theorem glsp_ok (id : Nat) (env : List V) (hp : Hp Tok) (l : Lf Tok) (h : (glsp id env hp).Has l) : ∃ n, evBody Itp Try.prog (fromList L1) gk glsp Try.f48 id hp.length n env hp = some l := by
  unfold glsp at h
  split at h
  · exact gl4_ok env hp l h
  · exact gl2_ok env hp l h
  · exact h.elim
/-- A literal of numbers reads as the list of them. -/
theorem rep_ints {w : World} {M : Nat → Prop} {e : Nat → Option Nat} : ∀ {xs : List (List V)} {l : List Int} {v : Value}, decInts xs = some l → Rep Itp w M e (.sli 1 xs) v → Rep Itp w M e (.slc true (.ints l)) v := by
  have hdec : ∀ (xs : List (List V)) (l : List Int), decInts xs = some l → xs = l.map fun b => [iA b] := by
    intro xs
    induction xs with
    | nil => intro l h; simp [decInts] at h; subst h; rfl
    | cons x r ih =>
      intro l h
      unfold decInts at h
      split at h
      · rename_i heq; cases heq
      · rename_i b r' heq
        cases heq
        obtain ⟨l', hl', rfl⟩ := map_some_inv h
        rw [ih l' hl']; rfl
      · cases h
  intro xs l v h hr
  have hx := hdec xs l h
  subst hx
  generalize hq : (AV.sli 1 (l.map fun b => [iA b]) : V) = q at hr
  cases hr with
  | sliN sz =>
    have hnil : l = [] := by have := (AV.sli.inj hq).2; simpa using this
    subst hnil; exact .slcN _ _ rfl
  | sli sz ys b o vs h1 h2 =>
    obtain ⟨hs, hy⟩ := AV.sli.inj hq
    subst hs
    subst hy
    have hlen : (l.map fun b => [iA b]).length = l.length := by simp
    rw [hlen]
    refine .slc true (Tok.ints l) b o l.length vs (Nat.le_refl _) (fun _ => rfl) (fun i j x hi hx => ?_) (fun i j x hi hx => ?_)
    · have hi' : i < l.length := hi
      refine h1 i j [iA l[i]] x (by simp [List.getElem?_map, List.getElem?_eq_getElem hi']) ?_
      simpa [Itp, List.getD_eq_getElem?_getD, List.getElem?_eq_getElem hi'] using hx
    · have hi' : i < l.length := hi
      refine h2 i j [iA l[i]] x (by simp [List.getElem?_map, List.getElem?_eq_getElem hi']) ?_
      simpa [Itp, List.getD_eq_getElem?_getD, List.getElem?_eq_getElem hi'] using hx
  | _ => cases hq
theorem ok_gcd : FnOk Itp Try.prog 48 spGcd := by
  intro args v hv
  unfold spGcd at hv
  split at hv
  · rename_i a xs
    split at hv
    · rename_i l hl
      obtain ⟨h, hv⟩ := has_br hv
      cases hv
      simp only [Bool.and_eq_true] at h
      have key : CallOk Itp Try.prog 48 [iA a, .slc true (.ints l)] (iA (gcdL a l)) := by
        refine fn_sound S1 hm Try.func48 (fun c hc => loopOk_of hc (by rw [show c = (Try.f48.body).getD .skip by rw [hc]; rfl]; kernel_rfl) glsp_ok) ((gcd_ev a l).trans ?_)
        have h1 := foldE_ok l a h.1 (by have := h.2; simp only [okL, Bool.and_eq_true] at this; exact this.1)
        have h2 := foldE_abs l a
        simp only [List.drop_zero, h.1, h.2, h1, show Itp.len (Tok.ints l) = l.length from rfl, decide_true, Bool.and_self, cond_true]
        simp only [iA, absI, gcdL, h2]
      intro w M vs hM hargs
      refine key w M vs hM ⟨hargs.1, fun j x u hx hu => ?_⟩
      match j, hx with
      | 0, hx => exact hargs.2 0 x u hx hu
      | 1, hx =>
        obtain rfl := Option.some.inj hx
        exact rep_ints hl (hargs.2 1 _ u rfl hu)
    · exact hv.elim
  · exact hv.elim
theorem S2 : SpecOk Itp Try.prog (fromList L2) :=
  specOk_cons (en _ _ Try.func48) ok_gcd <| specOk_cons (en _ _ Try.func45) ok_by <| specOk_cons (en _ _ Try.func52) ok_rby <| specOk_cons (en _ _ Try.func42) ok_within S1
end Go.Proofs.Ytamfgbenceoleaa.Span
