import Derived.Test.YtamfgbenceoleaaEv2b
namespace Go.Proofs.Ytamfgbenceoleaa.Ev
set_option linter.unusedVariables false
set_option linter.unusedSimpArgs false
set_option linter.unusedSectionVars false
set_option linter.unnecessarySimpa false
open Go.RowKit
section
variable {T : Type} (I : Interp T) (P : Program) {α : Type}
/-- What is kept at a loop's head: the temporaries to keep (all others are forgotten); variables from number L on go. -/
def keepEnv (ks : List Nat) : Nat → List (AV T) → List (AV T)
  | _, [] => []
  | i, x :: r => (bif ks.any (Nat.beq i) then x else .any) :: keepEnv ks (i + 1) r
def undHp (L : Nat) : Hp T → Bool
  | [] => true
  | none :: r => undHp L r
  | some xs :: r => AV.undL L xs && undHp L r
def trim (nt : Nat) (ks : List Nat) (L : Nat) (env : List (AV T)) (hp : Hp T) (K : List (AV T) → Hp T → Option α) : Option α :=
  bif AV.undL L (keepEnv ks 0 env) && undHp L (hp.take L) && Nat.beq env.length nt then K (keepEnv ks 0 env) (hp.take L) else none
/-- The kept temporaries alone, and back. -/
def pick (ks : List Nat) (env : List (AV T)) : List (AV T) := ks.map fun k => env.getD k .any
def spreadTo : List Nat → List (AV T) → List (AV T) → List (AV T)
  | k :: ks, v :: vs, env => spreadTo ks vs (env.set k v)
  | _, _, env => env
def spread (nt : Nat) (ks : List Nat) (vs : List (AV T)) : List (AV T) := spreadTo ks vs (List.replicate nt .any)
def firstRegion : Code → Nat
  | .region id _ _ => id
  | .seq a _ => firstRegion a
  | .block _ b => firstRegion b
  | .loop b => firstRegion b
  | .scope b => firstRegion b
  | _ => 0
abbrev Kt (T : Type) (α : Type) := X → List (AV T) → Hp T → Option α
def evLoop (nt : Nat) (ks : List Nat) (body : List (AV T) → Hp T → Kt T α → Option α) : Nat → List (AV T) → Hp T → Kt T α → Option α
  | 0, _, _, _ => none
  | n + 1, env, hp, K => body env hp fun x env' hp' =>
      match x with
      | .normal => trim nt ks hp.length env' hp' fun env'' hp'' => evLoop nt ks body n env'' hp'' K
      | x => K x env' hp'
def evRegion (spec : FuncId → List (AV T) → Tr (AV T)) (ops : Array Oper) (draw one : Bool) (env : List (AV T)) (hp : Hp T) (K : List (AV T) → Hp T → Option α) : Option α :=
  let hp' := bif makes ops then hp ++ List.replicate ops.size none else hp
  let walk := fun (allow : Nat → Nat → Bool) => bif one then evOpsO I P spec ops allow hp.length (List.range ops.size) (lift env) hp' (fun env' hp' => spine env' fun env' => K env' hp') else evOps I P spec ops allow hp.length (List.range ops.size) env hp' K
  bif draw then
    bif goodRegion ops then walk (allowedIn ops hp.length) else none
  else walk (fun _ _ => true)
/-- How a loop is left, and what is then in the temporaries and the variables. -/
abbrev Lf (T : Type) := X × List (AV T) × Hp T
def evCode (spec : FuncId → List (AV T) → Tr (AV T)) (keep : Nat → List Nat) (lsp : Nat → List (AV T) → Hp T → Tr (Lf T)) (nt : Nat) : Code → List (AV T) → Hp T → Kt T α → Option α
  | .skip, env, hp, K => K .normal env hp
  | .label _, env, hp, K => K .normal env hp
  | .region id ops draw, env, hp, K => evRegion I P spec ops draw (!(keep (id + 2000)).isEmpty) env hp (K .normal)
  | .seq a b, env, hp, K => evCode spec keep lsp nt a env hp fun x env' hp' =>
      match x with
      | .normal => evCode spec keep lsp nt b env' hp' K
      | x => K x env' hp'
  | .cond c a b, env, hp, K =>
      match evOpd env c with
      | .bool t => bif t then evCode spec keep lsp nt a env hp K else evCode spec keep lsp nt b env hp K
      | _ => none
  | .block id b, env, hp, K => evCode spec keep lsp nt b env hp fun x env' hp' =>
      match x with
      | .exit id' => bif Nat.beq id' id then K .normal env' hp' else K (.exit id') env' hp'
      | x => K x env' hp'
  | .loop b, env, hp, K => trim nt (keep (firstRegion b)) hp.length env hp fun env' hp' =>
      (lsp (firstRegion b) (pick (keep (firstRegion b)) env') hp').run fun l => K l.1 (spread nt (keep (firstRegion b + 1000)) l.2.1) l.2.2
  | .exit id, env, hp, K => K (.exit id) env hp
  | .ret, env, hp, K => K .ret env hp
  | _, _, _, _ => none
/-- The bodies of the loops. -/
def loopsOf : Code → List Code
  | .seq a b => loopsOf a ++ loopsOf b
  | .cond _ a b => loopsOf a ++ loopsOf b
  | .block _ b => loopsOf b
  | .loop b => b :: loopsOf b
  | _ => []
def bodyOf (fn : Func) (id : Nat) : Code :=
  match fn.body with
  | none => .skip
  | some c => ((loopsOf c).filter fun b => Nat.beq (firstRegion b) id).headD .skip
def evBody (spec : FuncId → List (AV T) → Tr (AV T)) (keep : Nat → List Nat) (lsp : Nat → List (AV T) → Hp T → Tr (Lf T)) (fn : Func) (id L n : Nat) (vals : List (AV T)) (hp : Hp T) : Option (Lf T) :=
  evLoop fn.ntmps (keep id) (evCode I P spec keep lsp fn.ntmps (bodyOf fn id)) n (spread fn.ntmps (keep id) vals) hp fun x e h => trim fn.ntmps (keep (id + 1000)) L e h fun e h => some (x, pick (keep (id + 1000)) e, h)
/-- One turn of a loop; F: the turns behind it. -/
def evTurn (spec : FuncId → List (AV T) → Tr (AV T)) (keep : Nat → List Nat) (lsp : Nat → List (AV T) → Hp T → Tr (Lf T)) (fn : Func) (id L : Nat) (F : List (AV T) → Hp T → Option (Lf T)) (vals : List (AV T)) (hp : Hp T) : Option (Lf T) :=
  evCode I P spec keep lsp fn.ntmps (bodyOf fn id) (spread fn.ntmps (keep id) vals) hp fun x env' hp' =>
    match x with
    | .normal => trim fn.ntmps (keep id) hp.length env' hp' fun e h => F (pick (keep id) e) h
    | x => trim fn.ntmps (keep (id + 1000)) L env' hp' fun e h => some (x, pick (keep (id + 1000)) e, h)
theorem keepEnv_len (ks : List Nat) : ∀ (i : Nat) (env : List (AV T)), (keepEnv ks i env).length = env.length
  | i, [] => rfl
  | i, y :: r => by simp [keepEnv, keepEnv_len ks (i + 1) r]
theorem keepEnv_any (ks : List Nat) : ∀ (i : Nat) (env : List (AV T)) (j : Nat) (x : AV T), (i + j) ∉ ks → (keepEnv ks i env)[j]? = some x → x = .any
  | i, [], j, x, _, h => by simp [keepEnv] at h
  | i, y :: r, 0, x, hn, h => by
    simp only [keepEnv, List.getElem?_cons_zero, Option.some.injEq] at h
    rw [← h]
    cases hc : ks.any (Nat.beq i) with
    | true =>
      obtain ⟨k, hk, hb⟩ := List.any_eq_true.1 hc
      exact absurd (Nat.eq_of_beq_eq_true hb ▸ hk) hn
    | false => rfl
  | i, y :: r, j + 1, x, hn, h => by
    simp only [keepEnv, List.getElem?_cons_succ] at h
    exact keepEnv_any ks (i + 1) r j x (by rwa [show i + 1 + j = i + (j + 1) by omega]) h
theorem spreadTo_get (src : List (AV T)) : ∀ (ks : List Nat) (env : List (AV T)) (j : Nat), env.length = src.length →
    (spreadTo ks (ks.map fun k => src.getD k .any) env).length = src.length ∧ (spreadTo ks (ks.map fun k => src.getD k .any) env)[j]? = if j ∈ ks then src[j]? else env[j]?
  | [], env, j, h => ⟨h, rfl⟩
  | k :: ks, env, j, h => by
    simp only [List.map_cons, spreadTo]
    obtain ⟨h1, h2⟩ := spreadTo_get src ks (env.set k (src.getD k .any)) j (by simpa using h)
    refine ⟨h1, ?_⟩
    rw [h2]
    by_cases hj : j ∈ ks
    · rw [if_pos hj, if_pos (List.mem_cons_of_mem _ hj)]
    · rw [if_neg hj, List.getElem?_set]
      by_cases hk : k = j
      · subst hk
        rw [if_pos rfl, if_pos (List.mem_cons_self ..)]
        split
        · rename_i hlt
          rw [List.getD_eq_getElem?_getD, List.getElem?_eq_getElem (by omega)]; rfl
        · rename_i hlt; rw [List.getElem?_eq_none (by omega)]
      · rw [if_neg hk, if_neg (by intro hm; rcases List.mem_cons.1 hm with h | h; exact hk h.symm; exact hj h)]
theorem spread_pick {nt : Nat} {ks : List Nat} {env : List (AV T)} (h : env.length = nt) : spread nt ks (pick ks (keepEnv ks 0 env)) = keepEnv ks 0 env := by
  have hl : (keepEnv ks 0 env).length = nt := by rw [keepEnv_len, h]
  apply List.ext_getElem?
  intro j
  unfold spread pick
  rw [(spreadTo_get (keepEnv ks 0 env) ks (List.replicate nt .any) j (by simp [hl])).2]
  by_cases hj : j ∈ ks
  · rw [if_pos hj]
  · rw [if_neg hj, List.getElem?_replicate]
    split
    · rename_i hlt
      have hx := List.getElem?_eq_getElem (l := keepEnv ks 0 env) (i := j) (by omega)
      rw [hx, keepEnv_any ks 0 env j _ (by simpa using hj) hx]
    · rw [List.getElem?_eq_none (by omega)]
theorem evBody_zero (spec : FuncId → List (AV T) → Tr (AV T)) (keep : Nat → List Nat) (lsp : Nat → List (AV T) → Hp T → Tr (Lf T)) (fn : Func) (id L : Nat) (vals : List (AV T)) (hp : Hp T) : evBody I P spec keep lsp fn id L 0 vals hp = none := rfl
theorem evBody_succ (spec : FuncId → List (AV T) → Tr (AV T)) (keep : Nat → List Nat) (lsp : Nat → List (AV T) → Hp T → Tr (Lf T)) (fn : Func) (id L n : Nat) (vals : List (AV T)) (hp : Hp T) :
    evBody I P spec keep lsp fn id L (n + 1) vals hp = evTurn I P spec keep lsp fn id L (evBody I P spec keep lsp fn id L n) vals hp := by
  unfold evBody evTurn
  rw [evLoop]
  congr 1
  funext x env' hp'
  cases x with
  | normal =>
    simp only [trim]
    cases hb : (AV.undL (List.length hp) (keepEnv (keep id) 0 env') && undHp (List.length hp) (List.take (List.length hp) hp') && Nat.beq (List.length env') fn.ntmps) with
    | false => rfl
    | true =>
      simp only [Bool.and_eq_true] at hb
      simp only [cond_true]
      rw [spread_pick (Nat.eq_of_beq_eq_true hb.2)]
  | exit id => rfl
  | ret => rfl
/-- A function's results. -/
def evRes (env : List (AV T)) (hp : Hp T) : List ResultVar → Option (List (AV T))
  | [] => some []
  | .tmp t :: r => (evRes env hp r).map fun xs => env.getD t (.tup []) :: xs
  | .cell a t :: r =>
    match env.getD a (.tup []) with
    | .ref id off => match hp[id]? with
      | some (some xs) => match partAV P t xs off with
        | some v => (evRes env hp r).map fun xs => v :: xs
        | none => none
      | _ => none
    | _ => none
def oneOf : List (AV T) → AV T
  | [x] => x
  | xs => .tup xs
def evFn (spec : FuncId → List (AV T) → Tr (AV T)) (keep : Nat → List Nat) (lsp : Nat → List (AV T) → Hp T → Tr (Lf T)) (fn : Func) (args : List (AV T)) (K : AV T → Option α) : Option α :=
  match fn.body with
  | none => none
  | some c => evCode I P spec keep lsp fn.ntmps c (args ++ List.replicate (fn.ntmps - args.length) (.tup [])) [] fun x env hp =>
      match x with
      | .exit _ => none
      | _ => match evRes P env hp fn.results.toList with
        | some rs => bif AV.undL 0 rs then K (oneOf rs) else none
        | none => none
end
end Go.Proofs.Ytamfgbenceoleaa.Ev
