import Derived.Test.YtamfgbenceoleaaEv13b
namespace Go.Proofs.Ytamfgbenceoleaa.Ev
set_option linter.unusedVariables false
set_option linter.unusedSimpArgs false
set_option linter.unusedSectionVars false
set_option linter.unnecessarySimpa false
open Go.RowKit
section
variable {T : Type} {I : Interp T} {P : Program} {α : Type}
variable {spec : FuncId → List (AV T) → Tr (AV T)}
variable {W0 : World} {M0 : Nat → Prop} {w : World} {env env1 : List (AV T)} {hp hp1 : Hp T} {e : Nat → Option Nat} {a : Act}
theorem keepEnv_get (ks : List Nat) : ∀ (i : Nat) (env : List (AV T)), (keepEnv ks i env).length = env.length ∧ ∀ (j : Nat) x, (keepEnv ks i env)[j]? = some x → x = .any ∨ env[j]? = some x
  | i, [] => ⟨rfl, fun j x h => by simp [keepEnv] at h⟩
  | i, y :: r => by
    obtain ⟨h1, h2⟩ := keepEnv_get ks (i + 1) r
    refine ⟨by simp [keepEnv, h1], fun j x h => ?_⟩
    cases j with
    | zero =>
      simp only [keepEnv, List.getElem?_cons_zero, Option.some.injEq] at h
      cases hc : ks.any (Nat.beq i) with
      | true => rw [hc] at h; exact .inr (by simpa using h)
      | false => rw [hc] at h; exact .inl h.symm
    | succ j => simp only [keepEnv, List.getElem?_cons_succ] at h ⊢; exact h2 j x h
theorem undHp_get {L : Nat} : ∀ {hp : Hp T}, undHp L hp = true → ∀ {id : Nat} {xs : List (AV T)}, hp[id]? = some (some xs) → AV.undL L xs = true
  | [], _, id, xs, h => by simp at h
  | none :: r, hb, 0, xs, h => by simp at h
  | some ys :: r, hb, 0, xs, h => by simp at h; subst h; simp only [undHp, Bool.and_eq_true] at hb; exact hb.1
  | none :: r, hb, id + 1, xs, h => by simp only [undHp] at hb; simp at h; exact undHp_get hb h
  | some ys :: r, hb, id + 1, xs, h => by simp only [undHp, Bool.and_eq_true] at hb; simp at h; exact undHp_get hb.2 h
theorem trim_sound {nt : Nat} {ks : List Nat} {L : Nat} {K : List (AV T) → Hp T → Option α} {r : α} (h : trim nt ks L env hp K = some r) (hR : Rel I W0 M0 env hp a w e) :
    ∃ hp' e', K (keepEnv ks 0 env) hp' = some r ∧ env.length = nt ∧ Rel I W0 M0 (keepEnv ks 0 env) hp' a w e' := by
  unfold trim at h
  obtain ⟨hb3, h⟩ := cond_inv h
  simp only [Bool.and_eq_true] at hb3
  have hb := hb3.1
  let e' : Nat → Option Nat := fun id => if id < L then e id else none
  have hM : ∀ b, Mut M0 e' b → Mut M0 e b := fun b hb => hb.elim .inl fun ⟨id, hid⟩ => by
    simp only [e'] at hid; split at hid
    · exact .inr ⟨id, hid⟩
    · cases hid
  have hkeep : ∀ {x : AV T} {v : Value}, x.und L = true → Rep I w (Mut M0 e) e x v → Rep I w (Mut M0 e') e' x v := fun hx hr =>
    hr.keep L (fun id b hid hb => by simp only [e', hid, if_true]; exact hb) (fun b _ => hM b) (fun _ _ _ => rfl) hx
  refine ⟨_, e', h, Nat.eq_of_beq_eq_true hb3.2, hR.defers, ⟨by rw [(keepEnv_get ks 0 env).1]; exact hR.env.1, fun j x v hx hv => ?_⟩, ⟨fun id xs hid => ?_, fun id hid => ?_, fun id id' b h1 h2 => ?_, fun id b h1 => ?_, hR.inv.old, hR.inv.bel⟩⟩
  · rcases (keepEnv_get ks 0 env).2 j x hx with rfl | hx'
    · exact .any _
    · exact hkeep (belowL_get hb.1 hx) (hR.env.2 j x v hx' hv)
  · have hx := undHp_get hb.2 hid
    rw [List.getElem?_take] at hid
    split at hid
    · rename_i hlt
      obtain ⟨b, vs, ty, h1, h2, h3⟩ := hR.inv.box id xs hid
      exact ⟨b, vs, ty, by simp only [e', hlt, if_true]; exact h1, h2, h3.1, fun j x v hx' hv => hkeep (belowL_get hx hx') (h3.2 j x v hx' hv)⟩
    · cases hid
  · simp only [e']
    split
    · rename_i hlt
      refine hR.inv.non id fun xs hx => hid xs ?_
      rw [List.getElem?_take, if_pos hlt]; exact hx
    · rfl
  · simp only [e'] at h1 h2
    split at h1
    · split at h2
      · exact hR.inv.inj id id' b h1 h2
      · cases h2
    · cases h1
  · simp only [e'] at h1
    split at h1
    · exact hR.inv.new id b h1
    · cases h1
/-- At a loop's turn. -/
def Again (P : Program) (c : Code) (Q : Exit → Act → World → Prop) (a : Act) (w : World) : Prop :=
  ∀ (b : Frame) (k : List Item) (cs : List Frame), ∃ e a' w', Q e a' w' ∧ Arrives P (lone (b.at a (.inLoop c :: k)) cs w) b k cs e a' w'
theorem loop_key {c : Code} {Q : Exit → Act → World → Prop} (h : c.wp P (Exit.then (Again P c Q) Q) a w) (b : Frame) (k : List Item) (cs : List Frame) :
    ∃ e a' w', Q e a' w' ∧ Arrives P (lone (b.at a (.code c :: .inLoop c :: k)) cs w) b k cs e a' w' := by
  obtain ⟨e, a₁, w₁, hq, harr⟩ := h b (.inLoop c :: k) cs
  cases e with
  | normal =>
    obtain ⟨e₂, a₂, w₂, hq₂, harr₂⟩ := hq b k cs
    exact ⟨e₂, a₂, w₂, hq₂, .of_steps harr harr₂⟩
  | exit id => exact ⟨_, a₁, w₁, hq, .pass (x := .inLoop c) rfl (fun _ _ => .inl (by simp)) harr⟩
  | goto l => exact ⟨_, a₁, w₁, hq, .pass (x := .inLoop c) rfl (fun _ _ => .inl (by simp)) harr⟩
  | ret => exact ⟨_, a₁, w₁, hq, .pass (x := .inLoop c) rfl (fun _ _ => .inl (by simp)) harr⟩
  | panic ch => exact ⟨_, a₁, w₁, hq, .pass (x := .inLoop c) rfl (fun _ _ => .inl (by simp)) harr⟩
  | outgrown => exact ⟨_, a₁, w₁, hq, .pass (x := .inLoop c) rfl (fun _ _ => .inl (by simp)) harr⟩
theorem again_of {c : Code} {Q : Exit → Act → World → Prop} (h : c.wp P (Exit.then (Again P c Q) Q) a w) : Again P c Q a w := fun b k cs => by
  obtain ⟨e, a', w', hq, harr⟩ := loop_key h b k cs
  exact ⟨e, a', w', hq, .of_steps (.one step_inLoop) harr⟩
theorem loop_of {c : Code} {Q : Exit → Act → World → Prop} (h : c.wp P (Exit.then (Again P c Q) Q) a w) : (Code.loop c).wp P Q a w := fun b k cs => by
  obtain ⟨e, a', w', hq, harr⟩ := loop_key h b k cs
  exact ⟨e, a', w', hq, .of_steps (.one step_loop) harr⟩
def exitOf : X → Exit
  | .normal => .normal
  | .exit id => .exit id
  | .ret => .ret
/-- What is to be shown of a piece of code. -/
def Sound (I : Interp T) (P : Program) (α : Type) (c : Code) (ev : List (AV T) → Hp T → Kt T α → Option α) : Prop :=
  ∀ (W0 : World) (M0 : Nat → Prop) (env : List (AV T)) (hp : Hp T) (K : Kt T α) (r : α), ev env hp K = some r → ∀ (a : Act) (w : World) (e : Nat → Option Nat), Rel I W0 M0 env hp a w e → ∀ Q : Exit → Act → World → Prop,
    (∀ x env' hp' a' w' e', K x env' hp' = some r → Rel I W0 M0 env' hp' a' w' e' → Q (exitOf x) a' w') → c.wp P Q a w
theorem evLoop_sound {nt : Nat} {ks : List Nat} {body : List (AV T) → Hp T → Kt T α → Option α} {c : Code} (hb : Sound I P α c body) : ∀ (n : Nat) (env : List (AV T)) (hp : Hp T) (K : Kt T α) (r : α), evLoop nt ks body n env hp K = some r →
    ∀ (a : Act) (w : World) (e : Nat → Option Nat), Rel I W0 M0 env hp a w e → ∀ Q : Exit → Act → World → Prop,
    (∀ x env' hp' a' w' e', K x env' hp' = some r → Rel I W0 M0 env' hp' a' w' e' → Q (exitOf x) a' w') → c.wp P (Exit.then (Again P c Q) Q) a w
  | 0, env, hp, K, r, h => by simp [evLoop] at h
  | n + 1, env, hp, K, r, h => by
    intro a w e hR Q hQ
    rw [evLoop] at h
    refine hb W0 M0 env hp _ r h a w e hR _ fun x env' hp' a' w' e' hk hR' => ?_
    cases x with
    | normal =>
      obtain ⟨hp2, e2, hk2, _, hR2⟩ := trim_sound hk hR'
      exact again_of (evLoop_sound hb n _ hp2 K r hk2 a' w' e2 hR2 Q hQ)
    | exit id => exact hQ _ _ _ _ _ _ hk hR'
    | ret => exact hQ _ _ _ _ _ _ hk hR'
/-- What is promised of loops is so. -/
def LoopOk (I : Interp T) (P : Program) (spec : FuncId → List (AV T) → Tr (AV T)) (keep : Nat → List Nat) (lsp : Nat → List (AV T) → Hp T → Tr (Lf T)) (nt : Nat) (c : Code) : Prop :=
  ∀ b ∈ loopsOf c, ∀ vals hp l, (lsp (firstRegion b) vals hp).Has l → ∃ n, evLoop nt (keep (firstRegion b)) (evCode I P spec keep lsp nt b) n (spread nt (keep (firstRegion b)) vals) hp
    (fun x e h => trim nt (keep (firstRegion b + 1000)) hp.length e h fun e h => some (x, pick (keep (firstRegion b + 1000)) e, h)) = some l
variable {nt : Nat} {keep : Nat → List Nat} {lsp : Nat → List (AV T) → Hp T → Tr (Lf T)}
theorem LoopOk.sub {c c' : Code} (h : LoopOk I P spec keep lsp nt c) (hs : ∀ b ∈ loopsOf c', b ∈ loopsOf c) : LoopOk I P spec keep lsp nt c' := fun b hb => h b (hs b hb)
/-- **The evaluator is sound.** -/
theorem code_sound (hS : SpecOk I P spec) (hm : P.follows .mixedOrders = true) : ∀ {α : Type} (c : Code), LoopOk I P spec keep lsp nt c → Sound I P α c (evCode I P spec keep lsp nt c)
  | _, .skip, hL => fun W0 M0 env hp K r h a w e hR Q hQ => wp_skip (hQ .normal _ _ _ _ _ h hR)
  | _, .label l, hL => fun W0 M0 env hp K r h a w e hR Q hQ => wp_label (hQ .normal _ _ _ _ _ h hR)
  | _, .region id ops draw, hL => fun W0 M0 env hp K r h a w e hR Q hQ => region_sound hS hm h hR fun env' hp' a' w' e' hk hR' => hQ .normal _ _ _ _ _ hk hR'
  | _, .seq x y, hL => fun W0 M0 env hp K r h a w e hR Q hQ => by
    rw [evCode] at h
    refine wp_seq (code_sound hS hm x (hL.sub fun b hb => List.mem_append.2 (.inl hb)) W0 M0 env hp _ r h a w e hR _ fun z env' hp' a' w' e' hk hR' => ?_)
    cases z with
    | normal => exact code_sound hS hm y (hL.sub fun b hb => List.mem_append.2 (.inr hb)) W0 M0 env' hp' K r hk a' w' e' hR' Q hQ
    | exit id => exact hQ _ _ _ _ _ _ hk hR'
    | ret => exact hQ _ _ _ _ _ _ hk hR'
  | _, .cond c x y, hL => fun W0 M0 env hp K r h a w e hR Q hQ => by
    rw [evCode] at h
    split at h
    · rename_i t ht
      have hc := opd_rep hR.env c
      rw [ht] at hc
      refine wp_cond hc.bool_inv ?_
      cases t with
      | true => exact code_sound hS hm x (hL.sub fun b hb => List.mem_append.2 (.inl hb)) W0 M0 env hp K r h a w e hR Q hQ
      | false => exact code_sound hS hm y (hL.sub fun b hb => List.mem_append.2 (.inr hb)) W0 M0 env hp K r h a w e hR Q hQ
    · cases h
  | _, .block id b, hL => fun W0 M0 env hp K r h a w e hR Q hQ => by
    rw [evCode] at h
    refine wp_block (code_sound hS hm b (hL.sub fun b hb => hb) W0 M0 env hp _ r h a w e hR _ fun z env' hp' a' w' e' hk hR' => ?_)
    cases z with
    | normal => exact hQ _ _ _ _ _ _ hk hR'
    | exit id' =>
      simp only at hk
      simp only [exitOf, Exit.inBlock]
      by_cases hid : id' = id
      · subst hid
        rw [show Nat.beq id' id' = true from Nat.beq_refl id'] at hk
        rw [if_pos rfl]
        exact hQ .normal _ _ _ _ _ hk hR'
      · rw [show Nat.beq id' id = false by cases hc : Nat.beq id' id with
          | false => rfl
          | true => exact absurd (Nat.eq_of_beq_eq_true hc) hid] at hk
        rw [if_neg hid]
        exact hQ (.exit id') _ _ _ _ _ hk hR'
    | ret => exact hQ _ _ _ _ _ _ hk hR'
  | _, .loop b, hL => fun W0 M0 env hp K r h a w e hR Q hQ => by
    rw [evCode] at h
    obtain ⟨hp2, e2, hk2, hlen, hR2⟩ := trim_sound h hR
    obtain ⟨l, hl, hk⟩ := Tr.run_has hk2
    obtain ⟨n, hn⟩ := hL b (List.mem_cons_self ..) _ hp2 l hl
    rw [spread_pick hlen] at hn
    refine loop_of (evLoop_sound (code_sound hS hm b (hL.sub fun b hb => List.mem_cons_of_mem _ hb)) n _ hp2 _ l hn a w e2 hR2 Q fun x env' hp' a' w' e' hx hR' => ?_)
    obtain ⟨hp3, e3, hx3, hlen3, hR3⟩ := trim_sound hx hR'
    obtain rfl := Option.some.inj hx3
    simp only [spread_pick hlen3] at hk
    exact hQ _ _ _ _ _ _ hk hR3
  | _, .exit id, hL => fun W0 M0 env hp K r h a w e hR Q hQ => wp_exit (hQ (.exit id) _ _ _ _ _ h hR)
  | _, .ret, hL => fun W0 M0 env hp K r h a w e hR Q hQ => wp_ret (hQ .ret _ _ _ _ _ h hR)
  | _, .rangeFunc .., hL => fun W0 M0 env hp K r h => by simp [evCode] at h
  | _, .scope _, hL => fun W0 M0 env hp K r h => by simp [evCode] at h
  | _, .goto _, hL => fun W0 M0 env hp K r h => by simp [evCode] at h
  | _, .refuse _, hL => fun W0 M0 env hp K r h => by simp [evCode] at h
def resOne (tmps : Array Value) : ResultVar → Sem Value
  | .tmp t => pure (tmps.getD t Go.undef)
  | .cell x t => do loadVar t (← asAddr (tmps.getD x Go.undef))
theorem evRes_sound (hR : Rel I W0 M0 env hp a w e) : ∀ (l : List ResultVar) (rs : List (AV T)), evRes P env hp l = some rs →
    ∃ vs : List Value, (l.mapM (resOne a.tmps)).run P w = .ok vs w ∧ RepL I w (Mut M0 e) e rs vs
  | [], rs, h => by simp [evRes] at h; subst h; exact ⟨[], by simp, RepL.nil⟩
  | .tmp t :: l, rs, h => by
    rw [evRes] at h
    obtain ⟨xs, hx, rfl⟩ := map_some_inv h
    obtain ⟨vs, hv, hr⟩ := evRes_sound hR l xs hx
    exact ⟨a.tmps.getD t Go.undef :: vs, by simp only [List.mapM_cons, Sem.run_bind, resOne, Sem.run_pure, Result.andThen_ok, hv], RepL.cons (opd_rep hR.env (.tmp t)) hr⟩
  | .cell x t :: l, rs, h => by
    rw [evRes] at h
    split at h
    · rename_i id off hx
      split at h
      · rename_i xs hid
        split at h
        · rename_i v hv
          obtain ⟨ys, hy, rfl⟩ := map_some_inv h
          obtain ⟨vs, hvs, hr⟩ := evRes_sound hR l ys hy
          have hA := opd_rep hR.env (.tmp x)
          have hA' : Rep I w (Mut M0 e) e (.ref id off) (a.tmps.getD x Go.undef) := by rw [← hx]; exact hA
          obtain ⟨b, eA, hb⟩ := hA'.ref_inv
          obtain ⟨b', us, ty, h1, h2, h3⟩ := hR.inv.box id xs hid
          rw [hb] at h1; cases h1
          obtain ⟨u, hu, hru⟩ := load_sound (P := P) (w := w) (b := b) (o := 0) hv (fun j y hy => by
            obtain ⟨t', ht', hrt⟩ := h3.get hy
            exact ⟨t', by rw [cell_of_row w b (0 + j) us ty (0, 0) h2, Nat.zero_add]; simpa using ht', hrt⟩)
          rw [Nat.zero_add] at hu
          exact ⟨u :: vs, by simp only [List.mapM_cons, Sem.run_bind, resOne, Sem.run_pure, Result.andThen_ok, eA, asAddr, hu, hvs], RepL.cons hru hr⟩
        · cases h
      · cases h
    · cases h
theorem results_sound (hR : Rel I W0 M0 env hp a w e) {fn : Func} {rs : List (AV T)} (h : evRes P env hp fn.results.toList = some rs) : ∃ u, (results fn a.tmps).run P w = .ok u w ∧ Rep I w (Mut M0 e) e (oneOf rs) u := by
  obtain ⟨vs, hv, hr⟩ := evRes_sound hR _ _ h
  refine ⟨if hs : vs.toArray.size = 1 then vs.toArray[0] else .tuple vs.toArray, ?_, ?_⟩
  · have hres : results fn a.tmps = (do let vs ← fn.results.mapM (resOne a.tmps); pure (if h : vs.size = 1 then vs[0] else .tuple vs)) := by
      unfold results; congr 1
    rw [hres, Sem.run_bind, Array.mapM_eq_mapM_toList, Sem.run_map, hv]
    rfl
  · match rs, vs, hr with
    | [x], [v], hr => exact hr.2 0 x v rfl rfl
    | [], [], hr => exact .tup _ _ rfl (fun j x v h => by simp at h)
    | x :: y :: rs, v :: u :: vs, hr =>
      simp only [oneOf]
      rw [dif_neg (by simp)]
      exact .tup _ _ (by simpa using hr.1) fun j x v hx hv => hr.2 j x v hx (by simpa using hv)
    | [], _ :: _, hr => simp [RepL] at hr
    | [_], [], hr => simp [RepL] at hr
    | [_], _ :: _ :: _, hr => simp [RepL] at hr
    | _ :: _ :: _, [], hr => simp [RepL] at hr
    | _ :: _ :: _, [_], hr => simp [RepL] at hr
/-- **A function's contract, from the evaluator.** -/
theorem fn_sound (hS : SpecOk I P spec) (hm : P.follows .mixedOrders = true) {f : FuncId} {fn : Func} (hf : P.funcs[f]? = some fn) (hL : ∀ c, fn.body = some c → LoopOk I P spec keep lsp fn.ntmps c) {args : List (AV T)} {v : AV T}
    (h : evFn I P spec keep lsp fn args some = some v) : CallOk I P f args v := by
  intro w M vs hM hargs
  unfold evFn at h
  cases hb : fn.body with
  | none => rw [hb] at h; cases h
  | some c =>
    rw [hb] at h
    simp only at h
    refine calls_of_wp hf hb ?_
    have hlen : args.length = vs.size := by have := hargs.1; simpa using this
    have hR : Rel I w M (args ++ List.replicate (fn.ntmps - args.length) (.tup [])) [] { tmps := vs ++ Array.replicate (fn.ntmps - vs.size) Go.undef, defers := [] } w (fun _ => none) := by
      refine ⟨rfl, ?_, ⟨(fun id xs h => by simp at h), fun id _ => rfl, (fun id id' b h => by cases h), (fun id b h => by cases h), hM, Below.refl _ _⟩⟩
      have h1 : RepL I w (Mut M fun _ => none) (fun _ => none) args vs.toList := ⟨hargs.1, fun j x v hx hv => by
        obtain ⟨L, hL⟩ := below_big x
        exact (hargs.2 j x v hx hv).keep L (fun _ _ _ h => h) (fun b _ hm => hm.elim id (fun ⟨_, h⟩ => by cases h)) (fun _ _ _ => rfl) (hL L (Nat.le_refl _))⟩
      have := h1.append (RepL.replicate (I := I) (w := w) (M := Mut M fun _ => none) (e := fun _ => none) Rep.undef (fn.ntmps - args.length))
      rw [hlen] at this ⊢
      simpa using this
    refine code_sound hS hm c (hL c hb) w M _ [] _ v h _ w _ hR _ fun x env' hp' a' w' e' hk hR' => ?_
    have hfin : x ≠ .exit 0 → (match evRes P env' hp' fn.results.toList with | some rs => bif AV.undL 0 rs then some (oneOf rs) else none | none => none) = some v → a'.defers = [] ∧ ∃ u, (results fn a'.tmps).run P w' = .ok u w' ∧ ∃ u', Ending.returned u = .returned u' ∧ Below w.heap.size w w' ∧ Rep I w' M (fun _ => none) v u' := by
      intro _ hk
      split at hk
      · rename_i rs hrs
        obtain ⟨hu, hk⟩ := cond_inv hk
        obtain rfl := Option.some.inj hk
        obtain ⟨u, hu', hr⟩ := results_sound hR' hrs
        refine ⟨hR'.defers, u, hu', u, rfl, hR'.inv.bel, ?_⟩
        refine hr.keep 0 (fun _ _ h => absurd h (Nat.not_lt_zero _)) (fun _ _ h => .inl h) (fun _ _ _ => rfl) ?_
        match rs, hu with
        | [], _ => rfl
        | [x], hu => simpa [oneOf, AV.undL] using hu
        | _ :: _ :: _, hu => simpa [oneOf, AV.und] using hu
      · cases hk
    cases x with
    | normal => exact hfin (by simp) hk
    | ret => exact hfin (by simp) hk
    | exit id => cases hk
end
end Go.Proofs.Ytamfgbenceoleaa.Ev
