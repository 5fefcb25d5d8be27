import Derived.Test.YtamfgbenceoleaaEv4
import Derived.Laws.StructEq
namespace Go.Proofs.Ytamfgbenceoleaa.Ev
set_option linter.unusedVariables false
set_option linter.unusedSimpArgs false
set_option linter.unusedSectionVars false
set_option linter.unnecessarySimpa false
open Go.RowKit
section
variable {T : Type} {I : Interp T} {P : Program} {w : World} {M : Nat → Prop} {e : Nat → Option Nat}
theorem opd_rep {env : List (AV T)} {a : Act} (h : RepL I w M e env a.tmps.toList) (x : Operand) : Rep I w M e (evOpd env x) (a.eval x) := by
  cases x with
  | tmp t =>
    show Rep I w M e (env.getD t (.tup [])) (a.tmps.getD t Go.undef)
    cases hx : env[t]? with
    | none =>
      have h1 : env.length ≤ t := by simpa using hx
      have h2 : a.tmps.size ≤ t := by have := h.1; simp at this; omega
      rw [List.getD_eq_getElem?_getD, hx]
      simp only [Option.getD_none]
      rw [show a.tmps.getD t Go.undef = Go.undef by simp [Array.getD, Nat.not_lt.2 h2]]
      exact Rep.undef
    | some x =>
      obtain ⟨v, hv, hr⟩ := h.get hx
      have hv' : a.tmps[t]? = some v := by simpa using hv
      rw [List.getD_eq_getElem?_getD, hx]
      rw [show a.tmps.getD t Go.undef = v by rw [Array.getD_eq_getD_getElem?, hv']; rfl]
      exact hr
  | const v => exact avOf_rep 2 v
  | global g => exact .any _
  | func f => exact .fn _ _ _ _ _ rfl rfl (fun j x v h => by simp at h) (fun j x v h => by simp at h)
theorem sameK_eq {j k : IntKind} (h : sameK j k = true) : j = k := by cases j <;> cases k <;> first | rfl | cases h
theorem run_pure' {α : Type} (x : α) : (pure x : Sem α).run P w = .ok x w := by simp
theorem evInt_sound {op : BinOp} {k : IntKind} {x y : Int} {v : AV T} (h : evInt op k x y = some (true, v)) (hs : op ≠ .shl ∧ op ≠ .shr) (t : TypeId) :
    ∃ u, (binOp op t (.int k x) (.int k y)).run P w = .ok u w ∧ Rep I w M e v u := by
  have hb : binOp op t (.int k x) (.int k y) = (match op with
    | .add | .sub | .mul => Op.intArith op k x y
    | .quo | .rem => Op.intDiv op k x y
    | .and | .or | .xor | .andNot => Op.intBits op k x y
    | _ => Op.intCmp op x y) := by
    obtain ⟨h1, h2⟩ := hs
    cases op <;> first | exact absurd rfl h1 | exact absurd rfl h2 | simp [binOp]
  rw [hb]
  cases op <;> simp only [evInt, Option.some.injEq, Prod.mk.injEq, Bool.not_eq_eq_eq_not, Bool.not_true, decide_eq_false_iff_not, true_and, reduceCtorEq] at h
  case quo => obtain ⟨h0, rfl⟩ := h; exact ⟨_, by simp [Op.intDiv, h0], .int _ _⟩
  case rem => obtain ⟨h0, rfl⟩ := h; exact ⟨_, by simp [Op.intDiv, h0], .int _ _⟩
  all_goals (subst h; first | exact ⟨_, by simp only [Op.intArith]; exact run_pure' _, .int _ _⟩ | exact ⟨_, by simp only [Op.intBits, bitI]; exact run_pure' _, .int _ _⟩ | exact ⟨_, by simp only [Op.intCmp]; exact run_pure' _, .bool _⟩)
theorem evShift_sound {op : BinOp} {k k' : IntKind} {x y : Int} {v : AV T} (h : evShift op k x y = some (true, v)) (t : TypeId) :
    ∃ u, (binOp op t (.int k x) (.int k' y)).run P w = .ok u w ∧ Rep I w M e v u := by
  cases op <;> simp only [evShift, Option.some.injEq, Prod.mk.injEq, Bool.not_eq_eq_eq_not, Bool.not_true, decide_eq_false_iff_not, true_and, reduceCtorEq] at h
  all_goals
    obtain ⟨h0, rfl⟩ := h
    exact ⟨_, by simp only [binOp, Op.shift, if_neg h0]; exact run_pure' _, .int _ _⟩
def EqOk (I : Interp T) (P : Program) (w : World) (M : Nat → Prop) (e : Nat → Option Nat) (d D : Nat) : Prop :=
  ∀ (t : TypeId) (x y : AV T) (b : Bool), evEq P d t x y = some b → ∀ u v, Rep I w M e x u → Rep I w M e y v → (Op.equalIn (d + D) t u v).run P w = .ok b w
theorem evEq_go_sound {d D : Nat} (ih : EqOk I P w M e d D) (xs ys : List (AV T)) (cs ds : Array Value) (hx : RepL I w M e xs cs.toList) (hy : RepL I w M e ys ds.toList) :
    ∀ (fs : List Field) (b : Bool), eqFieldsAV P (evEq P d) xs ys fs = some b → (Op.eqFields (d + D) cs ds fs).run P w = .ok b w
  | [], b, h => by
    simp only [eqFieldsAV, Option.some.injEq] at h; subst h
    simp [Op.eqFields]
  | f :: r, b, h => by
    rw [eqFieldsAV] at h
    cases hn : (f.name == "_") with
    | true => rw [hn] at h; cases h
    | false =>
      rw [hn] at h; simp only [cond_false] at h
      cases hp : partAV P f.type xs f.offset with
      | none => rw [hp] at h; cases h
      | some p =>
        cases hq : partAV P f.type ys f.offset with
        | none => rw [hp, hq] at h; cases h
        | some q =>
          rw [hp, hq] at h; simp only at h
          cases ha : evEq P d f.type p q with
          | none => rw [ha] at h; cases h
          | some a1 =>
            cases hb : eqFieldsAV P (evEq P d) xs ys r with
            | none => rw [ha, hb] at h; cases h
            | some b1 =>
              rw [ha, hb] at h
              simp only [Option.some.injEq] at h
              subst h
              obtain ⟨u, hu, hru⟩ := part_sound hp hx
              obtain ⟨v, hv, hrv⟩ := part_sound hq hy
              have h1 := ih f.type p q a1 ha u v hru hrv
              have h2 := evEq_go_sound ih xs ys cs ds hx hy r b1 hb
              have hn' : f.name ≠ "_" := by simpa using hn
              rw [Op.eqFields]
              simp only [if_pos hn', Sem.run_bind, hu, hv, h1, Result.andThen_ok]
              cases a1
              · simp
              · simpa using h2
theorem evEq_sound (D : Nat) : ∀ (d : Nat), EqOk I P w M e d D
  | 0 => fun t x y b h => by simp [evEq] at h
  | d + 1 => by
    intro t x y b h u v hu hv
    rw [show d + 1 + D = (d + D) + 1 by omega]
    unfold evEq at h
    split at h
    · rename_i a c ht
      simp only [Option.some.injEq] at h; subst h
      cases hu; cases hv
      simp [Op.equalIn, run_underlying ht]
    · rename_i k' k a kk c ht
      cases hk : sameK k kk with
      | false => rw [hk] at h; cases h
      | true =>
        rw [hk] at h; simp only [cond_true, Option.some.injEq] at h; subst h
        have := sameK_eq hk; subst this
        cases hu; cases hv
        simp [Op.equalIn, run_underlying ht]
    · rename_i a c ht
      simp only [Option.some.injEq] at h; subst h
      cases hu; cases hv
      simp [Op.equalIn, run_underlying ht]
    · rename_i fields xs ys ht
      cases hs : P.stoodInHeld t with
      | true => rw [hs] at h; cases h
      | false =>
        rw [hs] at h
        simp only [cond_false] at h
        obtain ⟨cs, rfl, hx⟩ := hu.agg_inv
        obtain ⟨ds, rfl, hy⟩ := hv.agg_inv
        have hf : P.fieldsOf t = fields := by simp [Program.fieldsOf, ht]
        rw [run_equalIn_struct (P := P) w (d + D) t cs ds (by rw [hf]; exact ht) hs, hf]
        exact evEq_go_sound (evEq_sound D d) xs ys cs ds hx hy fields.toList b h
    · cases h
theorem evMin_sound {k : IntKind} : ∀ (xs : List (AV T)) (x : Int) (v : AV T), evMin k x xs = some v → ∀ vs, RepL I w M e xs vs → ∃ u, (vs.foldlM Builtin.min2 (.int k x)).run P w = .ok u w ∧ Rep I w M e v u
  | [], x, v, h, vs, hr => by
    simp [evMin] at h; subst h
    cases vs with
    | nil => exact ⟨_, by simp, .int _ _⟩
    | cons _ _ => simp [RepL] at hr
  | y :: r, x, v, h, vs, hr => by
    cases vs with
    | nil => simp [RepL] at hr
    | cons u us =>
      have hr' : RepL I w M e r us := ⟨by have := hr.1; simpa using this, fun j z t hz ht => hr.2 (j + 1) z t (by simpa using hz) (by simpa using ht)⟩
      have h0 := hr.2 0 y u rfl rfl
      cases y <;> simp only [evMin, reduceCtorEq] at h
      case int k' n =>
        cases h0
        obtain ⟨q, hq, hrep⟩ := evMin_sound r _ v h us hr'
        refine ⟨q, ?_, hrep⟩
        simp only [List.foldlM_cons, Sem.run_bind, Builtin.min2, Sem.run_pure, Result.andThen_ok]
        exact hq
theorem evMax_sound {k : IntKind} : ∀ (xs : List (AV T)) (x : Int) (v : AV T), evMax k x xs = some v → ∀ vs, RepL I w M e xs vs → ∃ u, (vs.foldlM Builtin.max2 (.int k x)).run P w = .ok u w ∧ Rep I w M e v u
  | [], x, v, h, vs, hr => by
    simp [evMax] at h; subst h
    cases vs with
    | nil => exact ⟨_, by simp, .int _ _⟩
    | cons _ _ => simp [RepL] at hr
  | y :: r, x, v, h, vs, hr => by
    cases vs with
    | nil => simp [RepL] at hr
    | cons u us =>
      have hr' : RepL I w M e r us := ⟨by have := hr.1; simpa using this, fun j z t hz ht => hr.2 (j + 1) z t (by simpa using hz) (by simpa using ht)⟩
      have h0 := hr.2 0 y u rfl rfl
      cases y <;> simp only [evMax, reduceCtorEq] at h
      case int k' n =>
        cases h0
        obtain ⟨q, hq, hrep⟩ := evMax_sound r _ v h us hr'
        refine ⟨q, ?_, hrep⟩
        simp only [List.foldlM_cons, Sem.run_bind, Builtin.max2, Sem.run_pure, Result.andThen_ok]
        exact hq
end
end Go.Proofs.Ytamfgbenceoleaa.Ev
