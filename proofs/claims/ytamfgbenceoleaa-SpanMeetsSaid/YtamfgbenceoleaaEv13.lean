import Derived.Test.YtamfgbenceoleaaEv12
namespace Go.Proofs.Ytamfgbenceoleaa.Ev
set_option linter.unusedVariables false
set_option linter.unusedSimpArgs false
set_option linter.unusedSectionVars false
set_option linter.unnecessarySimpa false
open Go.RowKit
section
variable {T : Type} {I : Interp T} {P : Program} {α : Type}
variable {spec : FuncId → List (AV T) → Tr (AV T)} {ops : Array Oper} {allow : Nat → Nat → Bool} {base : Nat}
variable {W0 : World} {M0 : Nat → Prop} {w : World} {env env1 : List (AV T)} {hp hp1 : Hp T} {e : Nat → Option Nat} {a : Act}
/-- The state of a call, as the evaluator has it. -/
structure Rel (I : Interp T) (W0 : World) (M0 : Nat → Prop) (env : List (AV T)) (hp : Hp T) (a : Act) (w : World) (e : Nat → Option Nat) : Prop where
  defers : a.defers = []
  env : RepL I w (Mut M0 e) e env a.tmps.toList
  inv : Inv I W0 M0 w hp e
theorem guard_sound {o : Oper} {g : Bool} (h : guardOf ops env o = some g) {M : Nat → Prop} (hE : RepL I w M e env a.tmps.toList) : Region.wanted o (yielded ops a.tmps) = g := by
  unfold guardOf at h
  unfold Region.wanted
  cases hg : o.guard with
  | none => rw [hg] at h; simpa using h
  | some jw =>
    obtain ⟨j, want⟩ := jw
    rw [hg] at h
    simp only at h ⊢
    unfold yielded
    cases ht : (ops[j]?).bind (·.dst) with
    | none => rw [ht] at h; simp only [Option.some.injEq] at h; subst h; rfl
    | some t =>
      rw [ht] at h
      simp only at h
      simp only [Option.bind_some]
      cases hx : env[t]? with
      | none =>
        rw [hx] at h; simp only [Option.some.injEq] at h; subst h
        have h1 : env.length ≤ t := by simpa using hx
        have h2 : a.tmps.size ≤ t := by have := hE.1; simp at this; omega
        rw [Array.getElem?_eq_none h2]; rfl
      | some x =>
        obtain ⟨v, hv, hr⟩ := hE.get hx
        have hv' : a.tmps[t]? = some v := by simpa using hv
        rw [hx] at h
        rw [hv']
        split at h
        · rename_i b hb
          cases hb
          have := hr.bool_inv; subst this
          simp only [Option.some.injEq] at h; subst h
          cases b <;> cases want <;> rfl
        · rename_i hb
          cases hb
          obtain ⟨cs, rfl, _⟩ := hr.tup_inv
          simp only [Option.some.injEq] at h; subst h; rfl
        · rename_i k n hb
          cases hb
          have := hr.int_inv; subst this
          simp only [Option.some.injEq] at h; subst h; rfl
        · rename_i hb; cases hb
        · cases h
theorem Rel.put {dst : Option Tmp} {x : AV T} {u : Value} (h : Rel I W0 M0 env hp a w e) {w' : World} {hp' : Hp T} {e' : Nat → Option Nat} (hI : Inv I W0 M0 w' hp' e') (hx : Ext w (Mut M0 e) e w' (Mut M0 e') e') (hr : Rep I w' (Mut M0 e') e' x u) :
    Rel I W0 M0 (putAV env dst x) hp' (a.put dst u) w' e' := by
  refine ⟨by cases dst <;> exact h.defers, ?_, hI⟩
  have := h.env.ext hx
  cases dst with
  | none => exact this
  | some d => simpa [putAV, Act.put] using this.set d hr
theorem step_sound (hS : SpecOk I P spec) {i : Nat} (h : Step I P spec ops allow base i env hp env1 hp1) (hR : Rel I W0 M0 env hp a w e) {K : Act → World → Prop} {Q : Exit → Act → World → Prop}
    (hK : ∀ a' w' e', Rel I W0 M0 env1 hp1 a' w' e' → K a' w') : wpOp P ops Q i K a w := by
  unfold wpOp
  cases h with
  | go o v _ ho hg hout =>
    simp only [ho, guard_sound hg hR.env, if_true]
    exact .inl (out_sound hS hout hR.inv hR.env fun u w' e' hI hx hr => hK _ _ e' (hR.put hI hx hr))
  | skip o ho hg =>
    simp only [ho, guard_sound hg hR.env, Bool.false_eq_true, if_false]
    exact hK _ _ e (hR.put hR.inv (Ext.refl _ _ _) Rep.undef)
/-- In a given order. -/
inductive Run (I : Interp T) (P : Program) (spec : FuncId → List (AV T) → Tr (AV T)) (ops : Array Oper) (allow : Nat → Nat → Bool) (base : Nat) : List Nat → List (AV T) → Hp T → List (AV T) → Hp T → Prop
  | nil (x : List (AV T)) (q : Hp T) : Run I P spec ops allow base [] x q x q
  | cons (i : Nat) (l : List Nat) (x : List (AV T)) (q : Hp T) (x1 : List (AV T)) (q1 : Hp T) (x2 : List (AV T)) (q2 : Hp T) : Step I P spec ops allow base i x q x1 q1 → Run I P spec ops allow base l x1 q1 x2 q2 → Run I P spec ops allow base (i :: l) x q x2 q2
theorem set_same {env : List (AV T)} {t : Nat} {x : AV T} (h : env[t]? = some x) : env.set t x = env := by
  apply List.ext_getElem?
  intro j
  rw [List.getElem?_set]
  split
  · rename_i he; subst he
    split
    · exact h.symm
    · rename_i hlt; rw [List.getElem?_eq_none (by omega)] at h; cases h
  · rfl
theorem withGuard_inv {o : Oper} {run skip : List (AV T) → Option α} {r : α} (h : withGuard ops env o run skip = some r) :
    (guardOf ops env o = some true ∧ run env = some r) ∨ (guardOf ops env o = some false ∧ skip env = some r) := by
  unfold withGuard at h
  unfold guardOf
  cases hg : o.guard with
  | none => rw [hg] at h; exact .inl ⟨rfl, h⟩
  | some jw =>
    obtain ⟨j, want⟩ := jw
    rw [hg] at h
    simp only at h ⊢
    cases ht : (ops[j]?).bind (·.dst) with
    | none => rw [ht] at h; exact .inr ⟨rfl, h⟩
    | some t =>
      rw [ht] at h
      simp only at h ⊢
      split at h
      · rename_i b hb
        try rw [hb]
        cases b with
        | true =>
          rw [set_same hb] at h
          cases want with
          | true => exact .inl ⟨rfl, h⟩
          | false => exact .inr ⟨rfl, h⟩
        | false =>
          rw [set_same hb] at h
          cases want with
          | true => exact .inr ⟨rfl, h⟩
          | false => exact .inl ⟨rfl, h⟩
      · rename_i hb; exact .inr ⟨rfl, h⟩
      · rename_i hb; exact .inr ⟨rfl, h⟩
      · rename_i hb; exact .inr ⟨rfl, h⟩
      · cases h
theorem evOps_run {r : α} {K : List (AV T) → Hp T → Option α} : ∀ (l : List Nat) (env : List (AV T)) (hp : Hp T), evOps I P spec ops allow base l env hp K = some r → ∃ env' hp', Run I P spec ops allow base l env hp env' hp' ∧ K env' hp' = some r
  | [], env, hp, h => ⟨env, hp, .nil _ _, h⟩
  | i :: l, env, hp, h => by
    rw [evOps] at h
    cases ho : ops[i]? with
    | none => rw [ho] at h; cases h
    | some o =>
      rw [ho] at h
      simp only at h
      simp only [forceV_eq, spine_eq, spineO_eq] at h
      rcases withGuard_inv h with ⟨hg, h⟩ | ⟨hg, h⟩
      · obtain ⟨v, hp', hout, hk⟩ := evOp_out h
        obtain ⟨env2, hp2, hrun, hk'⟩ := evOps_run l _ _ hk
        exact ⟨env2, hp2, .cons _ _ _ _ _ _ _ _ (.go o v hp' ho hg hout) hrun, hk'⟩
      · obtain ⟨env2, hp2, hrun, hk'⟩ := evOps_run l _ _ h
        exact ⟨env2, hp2, .cons _ _ _ _ _ _ _ _ (.skip o ho hg) hrun, hk'⟩
theorem run_wp (hS : SpecOk I P spec) {Q : Exit → Act → World → Prop} : ∀ {l : List Nat} {env : List (AV T)} {hp : Hp T} {a : Act} {w : World} {e : Nat → Option Nat}, Run I P spec ops allow base l env hp env1 hp1 → Rel I W0 M0 env hp a w e →
    (∀ a' w' e', Rel I W0 M0 env1 hp1 a' w' e' → Q .normal a' w') → wpOps P ops Q l a w
  | [], env, hp, a, w, e, h, hR, hQ => by cases h; exact hQ a w e hR
  | i :: l, env, hp, a, w, e, h, hR, hQ => by
    cases h with
    | cons _ _ _ _ env' hp' _ _ hs hr =>
      rw [wpOps_cons]
      exact step_sound hS hs hR fun a' w' e' hR' => run_wp hS hr hR' hQ
/-- Whatever order is picked: the same end. -/
def AnyA (I : Interp T) (P : Program) (spec : FuncId → List (AV T) → Tr (AV T)) (ops : Array Oper) (allow : Nat → Nat → Bool) (base : Nat) (env1 : List (AV T)) (hp1 : Hp T) : Nat → Array Bool → List (AV T) → Hp T → Prop
  | 0, listed, env, hp => Region.ready .any ops listed = [] ∧ env = env1 ∧ hp = hp1
  | fuel + 1, listed, env, hp => (Region.ready .any ops listed = [] → env = env1 ∧ hp = hp1) ∧
      ∀ i ∈ Region.ready .any ops listed, ∃ env' hp', Step I P spec ops allow base i env hp env' hp' ∧ AnyA I P spec ops allow base env1 hp1 fuel (listed.setIfInBounds i true) env' hp'
theorem anyA_wp (hS : SpecOk I P spec) {Q : Exit → Act → World → Prop} (hQ : ∀ a' w' e', Rel I W0 M0 env1 hp1 a' w' e' → Q .normal a' w') : ∀ (fuel : Nat) (listed : Array Bool) (env : List (AV T)) (hp : Hp T) (a : Act) (w : World) (e : Nat → Option Nat),
    AnyA I P spec ops allow base env1 hp1 fuel listed env hp → Rel I W0 M0 env hp a w e → wpAny P .any ops Q fuel listed a w
  | 0, _, env, hp, a, w, e, h, hR => by obtain ⟨h1, rfl, rfl⟩ := h; exact ⟨h1, hQ a w e hR⟩
  | fuel + 1, _, env, hp, a, w, e, h, hR => by
    refine ⟨fun h0 => ?_, fun i hi => ?_⟩
    · obtain ⟨rfl, rfl⟩ := h.1 h0; exact hQ a w e hR
    · obtain ⟨env', hp', hs, hA⟩ := h.2 i hi
      exact step_sound hS hs hR fun a' w' e' hR' => anyA_wp hS hQ fuel _ env' hp' a' w' e' hA hR'
theorem anyA_first {i : Nat} {oi : Oper} (hi : ops[i]? = some oi) :
    ∀ (fuel : Nat) (listed : Array Bool) (env : List (AV T)) (hp : Hp T) (env' : List (AV T)) (hp' : Hp T),
      (∀ j oj, ops[j]? = some oj → j ≠ i → listed.getD j true = false → (∀ e ∈ oj.after, Region.binds .any e = true → e.on ≠ i) → oi.apart ops oj = true ∧ okPair ops i oi j oj = true) →
      i ∈ Region.ready .any ops listed → Step I P spec ops (allowedIn ops base) base i env hp env' hp' →
      AnyA I P spec ops (allowedIn ops base) base env1 hp1 fuel (listed.setIfInBounds i true) env' hp' → AnyA I P spec ops (allowedIn ops base) base env1 hp1 (fuel + 1) listed env hp := by
  intro fuel
  induction fuel with
  | zero =>
    intro listed env hp env' hp' _ hr hy H
    refine ⟨fun h => (by rw [h] at hr; cases hr), fun j hj => ?_⟩
    by_cases hji : j = i
    · subst hji; exact ⟨_, _, hy, H⟩
    · have := ready_mono hj hji
      rw [H.1] at this
      cases this
  | succ fuel ih =>
    intro listed env hp env' hp' hfree hr hy H
    refine ⟨fun h => (by rw [h] at hr; cases hr), fun j hj => ?_⟩
    by_cases hji : j = i
    · subst hji; exact ⟨_, _, hy, H⟩
    · obtain ⟨env2, hp2, hs2, hA2⟩ := H.2 j (ready_mono hj hji)
      obtain ⟨hjun, oj, hoj, hall⟩ := mem_ready.1 hj
      have hnot : ∀ e ∈ oj.after, Region.binds .any e = true → e.on ≠ i := fun e he hb heq => by
        have h1 := hall e he hb
        have h0 := (mem_ready.1 hr).1
        rw [heq] at h1
        rcases Nat.lt_or_ge i listed.size with h' | h'
        · simp [h'] at h0 h1; rw [h0] at h1; cases h1
        · simp [Array.getElem?_eq_none h'] at h1
      obtain ⟨hap, hok⟩ := hfree j oj hoj hji hjun hnot
      obtain ⟨e1, q1, hsj, hsi⟩ := step_swap hi hoj (Ne.symm hji) hap hok hnot hy hs2
      have hfree' : ∀ k ok, ops[k]? = some ok → k ≠ i → (listed.setIfInBounds j true).getD k true = false →
          (∀ e ∈ ok.after, Region.binds .any e = true → e.on ≠ i) → oi.apart ops ok = true ∧ okPair ops i oi k ok = true := fun k ok hk hki hun hno => by
        refine hfree k ok hk hki ?_ hno
        by_cases hjk : j = k
        · subst hjk; exact hjun
        · rw [getD_set_ne true hjk] at hun; exact hun
      refine ⟨e1, q1, hsj, ih (listed.setIfInBounds j true) e1 q1 env2 hp2 hfree' (ready_mono hr (Ne.symm hji)) hsi ?_⟩
      rw [Array.setIfInBounds_comm _ _ hji]
      exact hA2
theorem freeH_spec (h : freeH ops = true) {i : Nat} {oi : Oper} (hi : ops[i]? = some oi) {j : Nat} {oj : Oper} (hj : ops[j]? = some oj) (hlt : i < j) (hno : ∀ e ∈ oj.after, Region.binds .any e = true → e.on ≠ i) : okPair ops i oi j oj = true := by
  unfold freeH at h
  have h1 := List.all_eq_true.1 h i (List.mem_range.2 (Array.getElem?_eq_some_iff.1 hi).1)
  simp only [hi] at h1
  have h2 := List.all_eq_true.1 h1 j (List.mem_range.2 (Array.getElem?_eq_some_iff.1 hj).1)
  simp only [hj, Bool.or_eq_true] at h2
  rcases h2 with h2 | h2 | h2
  · have := Nat.ble_eq.mp h2; omega
  · obtain ⟨e, he, hb⟩ := Array.any_eq_true'.1 h2
    simp only [Bool.and_eq_true, beq_iff_eq] at hb
    exact absurd hb.2 (hno e he hb.1)
  · exact h2
theorem anyA_lex (hH : freeH ops = true) : ∀ (n k : Nat) (listed : Array Bool) (env : List (AV T)) (hp : Hp T), k + n = ops.size → (∀ j, j < k → listed.getD j true = true) →
    Region.lexFrom .any ops n k listed = true → Run I P spec ops (allowedIn ops base) base (List.range' k n) env hp env1 hp1 → AnyA I P spec ops (allowedIn ops base) base env1 hp1 n listed env hp
  | 0, k, listed, env, hp, _, _, hB, h => by
    cases h
    exact ⟨by simpa [Region.lexFrom] using hB, rfl, rfl⟩
  | n + 1, k, listed, env, hp, hk, hl, hB, h => by
    rw [List.range'_succ] at h
    cases h with
    | cons _ _ _ _ env' hp' _ _ hs hr =>
      simp only [Region.lexFrom, Bool.and_eq_true] at hB
      obtain ⟨⟨hrd, hf⟩, hB'⟩ := hB
      have hlt : k < ops.size := by omega
      have h0 : ops[k]? = some ops[k] := Array.getElem?_eq_getElem hlt
      have hrd' : k ∈ Region.ready .any ops listed := by simpa using hrd
      refine anyA_first h0 n listed env hp env' hp' (fun j oj hj hji hun hno => ⟨Region.free_spec h0 hf j oj hj hji hun hno, ?_⟩) hrd' hs
        (anyA_lex hH n (k + 1) _ env' hp' (by omega) (fun j hj => ?_) hB' hr)
      · rcases Nat.lt_or_gt_of_ne hji with hlt' | hgt
        · rw [hl j hlt'] at hun; cases hun
        · exact freeH_spec hH h0 hj hgt hno
      · by_cases hjk : k = j
        · subst hjk
          rcases Nat.lt_or_ge k listed.size with h' | h'
          · simp [h']
          · simp [Array.getElem?_eq_none, h']
        · rw [getD_set_ne true hjk]; exact hl j (by omega)
theorem Rel.drew (h : Rel I W0 M0 env hp a w e) : Rel I W0 M0 env hp a { w with drawn := w.drawn + 1 } e :=
  ⟨h.defers, h.env.ext h.inv.drew.2, h.inv.drew.1⟩
theorem Rel.pad (h : Rel I W0 M0 env hp a w e) (n : Nat) : Rel I W0 M0 env (hp ++ List.replicate n none) a w e := by
  refine ⟨h.defers, h.env, ⟨fun id xs hid => ?_, fun id hid => ?_, h.inv.inj, h.inv.new, h.inv.old, h.inv.bel⟩⟩
  · rw [List.getElem?_append] at hid
    split at hid
    · exact h.inv.box id xs hid
    · rw [List.getElem?_replicate] at hid; split at hid <;> simp at hid
  · refine h.inv.non id fun xs hx => hid xs ?_
    have hlt : id < hp.length := by rcases Nat.lt_or_ge id hp.length with h' | h'; exact h'; simp [List.getElem?_eq_none h'] at hx
    rw [List.getElem?_append_left hlt]; exact hx
end
end Go.Proofs.Ytamfgbenceoleaa.Ev
