import Derived.Test.YtamfgbenceoleaaEv14
namespace Go.Proofs.Ytamfgbenceoleaa.Ev
set_option linter.unusedVariables false
set_option linter.unusedSimpArgs false
set_option linter.unusedSectionVars false
set_option linter.unnecessarySimpa false
open Go.RowKit
section
variable {T : Type} {I : Interp T} {P : Program}
/-- What is said of one function. -/
def FnOk (I : Interp T) (P : Program) (f : FuncId) (s : List (AV T) → Tr (AV T)) : Prop := ∀ args v, (s args).Has v → CallOk I P f args v
/-- A list of contracts as one answerer. -/
def fromList : List (FuncId × (List (AV T) → Tr (AV T))) → FuncId → List (AV T) → Tr (AV T)
  | [], _, _ => .fail
  | (g, s) :: r, f, args => bif Nat.beq g f then s args else fromList r f args
theorem specOk_nil : SpecOk I P (fromList []) := fun f args v h => h.elim
theorem specOk_cons {f : FuncId} {s : List (AV T) → Tr (AV T)} {L : List (FuncId × (List (AV T) → Tr (AV T)))} (he : Enterable P f) (h : FnOk I P f s) (hs : SpecOk I P (fromList L)) : SpecOk I P (fromList ((f, s) :: L)) := by
  intro g args v hv
  rw [fromList] at hv
  cases hc : Nat.beq f g with
  | true => rw [hc] at hv; have := Nat.eq_of_beq_eq_true hc; subst this; exact ⟨he, h args v hv⟩
  | false => rw [hc] at hv; exact hs g args v hv
theorem enterable {f : FuncId} {fn : Func} (hf : P.funcs[f]? = some fn) (hb : fn.body.isNone = false) (hn : (fn.name == "runtime.NumGoroutine") = false) : Enterable P f := ⟨fn, hf, hb, hn⟩
def noLoops : Nat → List (AV T) → Hp T → Tr (Lf T) := fun _ _ _ => .fail
theorem loopOk_none {spec : FuncId → List (AV T) → Tr (AV T)} {keep : Nat → List Nat} {nt : Nat} (c : Code) : LoopOk I P spec keep noLoops nt c := fun b hb env hp l h => h.elim
def nodupB : List Nat → Bool
  | [] => true
  | x :: r => !r.any (Nat.beq x) && nodupB r
theorem filter_one {β : Type} (f : β → Nat) (d : β) : ∀ (l : List β), nodupB (l.map f) = true → ∀ b ∈ l, (l.filter fun x => Nat.beq (f x) (f b)).headD d = b
  | [], _, b, hb => by cases hb
  | x :: l, h, b, hb => by
    simp only [List.map_cons, nodupB, Bool.and_eq_true, Bool.not_eq_eq_eq_not, Bool.not_true] at h
    have hx := h.1
    rw [List.any_eq_false] at hx
    rw [List.filter_cons]
    rcases List.mem_cons.1 hb with rfl | hb
    · rw [if_pos (Nat.beq_refl _)]; rfl
    · have : Nat.beq (f x) (f b) = false := by
        cases hc : Nat.beq (f x) (f b) with
        | false => rfl
        | true => exact absurd hc (hx (f b) (List.mem_map.2 ⟨b, hb, rfl⟩))
      rw [if_neg (by rw [this]; decide)]
      exact filter_one f d l h.2 b hb
theorem loopOk_of {spec : FuncId → List (AV T) → Tr (AV T)} {keep : Nat → List Nat} {lsp : Nat → List (AV T) → Hp T → Tr (Lf T)} {fn : Func} {c : Code} (hc : fn.body = some c) (hu : nodupB ((loopsOf c).map firstRegion) = true)
    (h : ∀ id env hp l, (lsp id env hp).Has l → ∃ n, evBody I P spec keep lsp fn id hp.length n env hp = some l) : LoopOk I P spec keep lsp fn.ntmps c := by
  intro b hb env hp l hl
  obtain ⟨n, hn⟩ := h _ env hp l hl
  refine ⟨n, ?_⟩
  unfold evBody bodyOf at hn
  rw [hc] at hn
  simp only at hn
  rw [filter_one firstRegion .skip _ hu b hb] at hn
  exact hn
/-- A contract without loops: what the evaluator gives. -/
theorem fnOk {spec : FuncId → List (AV T) → Tr (AV T)} (hS : SpecOk I P spec) (hm : P.follows .mixedOrders = true) {f : FuncId} {fn : Func} (hf : P.funcs[f]? = some fn) (s : List (AV T) → Tr (AV T))
    (h : ∀ args v, (s args).Has v → evFn I P spec (fun _ => []) noLoops fn args some = some v) : FnOk I P f s :=
  fun args v hv => fn_sound hS hm hf (fun c _ => loopOk_none c) (h args v hv)
/-- With loops. -/
theorem fnOkL {spec : FuncId → List (AV T) → Tr (AV T)} (hS : SpecOk I P spec) (hm : P.follows .mixedOrders = true) {f : FuncId} {fn : Func} (hf : P.funcs[f]? = some fn) (s : List (AV T) → Tr (AV T)) (keep : Nat → List Nat) (lsp : Nat → List (AV T) → Hp T → Tr (Lf T))
    (hu : nodupB ((loopsOf (fn.body.getD .skip)).map firstRegion) = true) (hl : ∀ id env hp l, (lsp id env hp).Has l → ∃ n, evBody I P spec keep lsp fn id hp.length n env hp = some l)
    (h : ∀ args v, (s args).Has v → evFn I P spec keep lsp fn args some = some v) : FnOk I P f s :=
  fun args v hv => fn_sound hS hm hf (fun c hc => loopOk_of hc (by rw [hc] at hu; exact hu) hl) (h args v hv)
theorem has_br {β : Type} {b : Bool} {x : Tr β} {v : β} (h : (Tr.br b x .fail).Has v) : b = true ∧ x.Has v := by
  cases b with
  | true => exact ⟨rfl, h.1 rfl⟩
  | false => exact (h.2 rfl).elim
theorem has_ret {β : Type} {u v : β} (h : (Tr.ret u).Has v) : u = v := h
end
end Go.Proofs.Ytamfgbenceoleaa.Ev
