import Derived.Test.YtamfgbenceoleaaEv9
namespace Go.Proofs.Ytamfgbenceoleaa.Ev
set_option linter.unusedVariables false
set_option linter.unusedSimpArgs false
set_option linter.unusedSectionVars false
set_option linter.unnecessarySimpa false
open Go.RowKit
section
variable {T : Type} {I : Interp T} {P : Program} {α : Type}
variable {spec : FuncId → List (AV T) → Tr (AV T)} {allowed : Nat → Bool} {nid : Nat} {o : Oper} {env : List (AV T)} {hp : Hp T} {K : AV T → Hp T → Option α} {r : α}
theorem cond_inv {b : Bool} {x : Option α} (h : (bif b then x else none) = some r) : b = true ∧ x = some r := by cases b <;> simp_all
theorem pure_out (hc : classOf o = 0) (h : (match evPure I P (evOpd env) o with
    | some (g, v) => bif g then K v hp else none
    | none => none) = some r) : ∃ v hp', Out I P spec allowed nid o env hp v hp' ∧ K v hp' = some r := by
  cases hp' : evPure I P (evOpd env) o with
  | none => rw [hp'] at h; cases h
  | some gv =>
    obtain ⟨g, v⟩ := gv
    rw [hp'] at h
    obtain ⟨rfl, hk⟩ := cond_inv h
    exact ⟨v, hp, .pure _ _ hc hp', hk⟩
theorem evIdx_inv {elem : TypeId} {xs : List (AV T)} {sz : Nat} {n : Int} {K : AV T → Option α} {r : α} : ∀ (c j : Nat), evIdx P elem xs sz n K c j = some r → ∃ k : Nat, j ≤ k ∧ k < j + c ∧ n = (k : Int) ∧ ∃ v, partAV P elem xs (k * sz) = some v ∧ K v = some r
  | 0, j, h => by simp [evIdx] at h
  | c + 1, j, h => by
    rw [evIdx] at h
    by_cases hn : n = (j : Int)
    · rw [decide_eq_true hn] at h
      simp only [cond_true] at h
      split at h
      · rename_i v hv
        exact ⟨j, Nat.le_refl _, by omega, hn, v, hv, h⟩
      · cases h
    · rw [decide_eq_false hn] at h
      simp only [cond_false] at h
      obtain ⟨k, h1, h2, h3⟩ := evIdx_inv c (j + 1) h
      exact ⟨k, by omega, by omega, h3⟩
/-- What the evaluator goes on with is what the operation comes to. -/
theorem evOp_out (h : evOp I P spec allowed nid o env hp K = some r) : ∃ v hp', Out I P spec allowed nid o env hp v hp' ∧ K v hp' = some r := by
  unfold evOp at h
  split at h
  · rename_i c x y ho
    split at h
    · rename_i b hb
      refine ⟨_, hp, .pick hp c x y b ho hb, ?_⟩
      cases b <;> exact h
    · cases h
  · rename_i t a ho
    split at h
    · rename_i id off ha
      obtain ⟨hal, h⟩ := cond_inv h
      split at h
      · rename_i xs hx
        split at h
        · rename_i v hv
          exact ⟨v, hp, .loadR hp t a id off xs v ho ha hal hx hv, h⟩
        · cases h
      · cases h
    · rename_i xs off ha
      split at h
      · rename_i v hv
        exact ⟨v, hp, .loadE hp t a xs off v ho ha hv, h⟩
      · cases h
    · cases h
  · rename_i t a x ho
    split at h
    · rename_i id off n ha hs
      obtain ⟨hal, h⟩ := cond_inv h
      split at h
      · rename_i xs hx
        obtain ⟨hb, h⟩ := cond_inv h
        simp only [Bool.and_eq_true] at hb
        exact ⟨_, _, .store hp t a x id off n xs ho ha hs hal hx (by simpa using hb.1.1) (by simpa using hb.1.2) hb.2, h⟩
      · cases h
    · cases h
  · rename_i t ho
    split at h
    · cases h
    · cases h
    · rename_i z hne hz
      split at h
      · rename_i hn
        exact ⟨_, _, .alloc hp t z ho hz (fun h0 => hne (by rw [h0])) hn, h⟩
      · cases h
  · rename_i t x ho
    split at h
    · cases h
    · rename_i hne
      split at h
      · rename_i hn
        exact ⟨_, _, .box hp t x ho hne hn, h⟩
      · cases h
  · rename_i t len parts ho
    split at h
    · rename_i elem hu
      split at h
      · cases h
      · rename_i sz z hne hs hz
        obtain ⟨hb, h⟩ := cond_inv h
        simp only [Bool.and_eq_true] at hb
        split at h
        · rename_i xs hx
          exact ⟨_, _, .buildSlice hp t len parts elem sz z xs ho hu hs hz (fun h0 => hne (by rw [h0])) (by simpa using hb.1.1.1) (by simpa using hb.1.1.2) (by simpa using hb.1.2) hb.2 hx, h⟩
        · cases h
      · cases h
    · cases h
  · rename_i c ho
    split at h
    · rename_i f hf
      split at h
      · rename_i n hfn
        obtain ⟨hcl, h⟩ := cond_inv h
        obtain ⟨v, hv, hk⟩ := Tr.run_has h
        exact ⟨v, hp, .call hp c f n v ho hf hfn hcl hv, hk⟩
      · cases h
    · exact pure_out (by unfold classOf; rw [ho]) h
  · rename_i t x i ho
    split at h
    · rename_i len elem xs k n hu hx hi
      split at h
      · rename_i sz hs
        obtain ⟨j, h1, h2, h3, v, hv, hk⟩ := evIdx_inv _ _ h
        refine ⟨v, hp, .pure _ _ (by unfold classOf; rw [ho]) ?_, hk⟩
        subst h3
        unfold evPure
        simp only [ho, hu, hx, hi, hs, Int.toNat_natCast, hv]
        congr 2
        simp only [Bool.and_eq_true, decide_eq_true_eq]
        omega
      · cases h
    · cases h
  · refine pure_out ?_ h
    unfold classOf
    split <;> simp_all
end
end Go.Proofs.Ytamfgbenceoleaa.Ev
