import Derived.Test.YtamfgbenceoleaaEv13
/-! The second way to walk a region is sound. -/
namespace Go.Proofs.Ytamfgbenceoleaa.Ev
set_option linter.unusedVariables false
set_option linter.unusedSimpArgs false
set_option linter.unusedSectionVars false
set_option linter.unnecessarySimpa false
open Go.RowKit
section
variable {T : Type} {I : Interp T} {P : Program} {α : Type}
variable {spec : FuncId → List (AV T) → Tr (AV T)} {ops : Array Oper} {allow : Nat → Nat → Bool} {base : Nat}
variable {W0 : World} {M0 : Nat → Prop} {w : World} {env env1 : List (AV T)} {hp hp1 : Hp T} {e : Nat → Option Nat} {a : Act}
theorem eqP_eq : ∀ {p q : List (Nat × Bool)}, eqP p q = true → p = q
  | [], [], _ => rfl
  | [], _ :: _, h => by simp [eqP] at h
  | _ :: _, [], h => by simp [eqP] at h
  | (a, x) :: r, (b, y) :: s, h => by
    simp only [eqP, Bool.and_eq_true, beq_iff_eq] at h
    rw [Nat.eq_of_beq_eq_true h.1, h.2.1, eqP_eq h.2.2]
theorem way_cons {o : List (OV T)} {t : Nat} {b : Bool} {r : List (Nat × Bool)} : wayB o ((t, b) :: r) = (wayB o r && onB o t b) := by
  cases r with
  | nil => simp [wayB]
  | cons _ _ => rfl
theorem withWay_eq {γ : Type} {o : List (OV T)} : ∀ (g : List (Nat × Bool)) (k : Bool → γ), withWay o g k = k (wayB o g)
  | [], _ => rfl
  | [(t, w)], k => by
    unfold withWay wayB onB
    simp only
    cases hx : o[t]? with
    | none => rfl
    | some y => obtain ⟨p, v⟩ := y; cases v <;> first | rfl | (cases w <;> rfl)
  | (t, w) :: q :: r, k => by
    rw [withWay, withWay_eq (q :: r), way_cons (t := t) (b := w) (r := q :: r)]
    generalize wayB o (q :: r) = c
    unfold onB
    cases hx : o[t]? with
    | none => rfl
    | some y => obtain ⟨p, v⟩ := y; cases v <;> first | rfl | (cases w <;> rfl)
theorem suf_way {o : List (OV T)} {p : List (Nat × Bool)} : ∀ {g : List (Nat × Bool)}, sufB p g = true → wayB o g = true → wayB o p = true
  | [], h, hw => by rw [eqP_eq (show eqP p [] = true from h)]; exact hw
  | (t, b) :: r, h, hw => by
    simp only [sufB, Bool.or_eq_true] at h
    rcases h with h | h
    · rw [eqP_eq h]; exact hw
    · rw [way_cons, Bool.and_eq_true] at hw; exact suf_way h hw.1
theorem conc_get {o : List (OV T)} {t : Nat} : (conc o)[t]? = (o[t]?).map fun x => bif wayB o x.1 then x.2 else .tup [] := by simp [conc]
theorem view_get {g : List (Nat × Bool)} {o : List (OV T)} {t : Nat} : (view g o)[t]? = (o[t]?).map fun x => bif sufB x.1 g then x.2 else .any := by simp [view]
theorem view_conc {g : List (Nat × Bool)} {o : List (OV T)} (hw : wayB o g = true) {x : Operand} (h : okOpd g o x = true) : evOpd (view g o) x = evOpd (conc o) x := by
  cases x with
  | tmp t =>
    simp only [evOpd, List.getD_eq_getElem?_getD, view_get, conc_get]
    unfold okOpd at h
    simp only at h
    cases hx : o[t]? with
    | none => rfl
    | some y => rw [hx] at h; simp only at h; simp [h, suf_way h hw]
  | _ => rfl
theorem opds_conc {g : List (Nat × Bool)} {o : List (OV T)} (hw : wayB o g = true) {q : Oper} (h : okOpds g o q = true) : ∀ x ∈ q.op.operands, evOpd (view g o) x = evOpd (conc o) x := fun x hx =>
  view_conc hw (List.all_eq_true.1 h x (by simpa using hx))
theorem onB_set {o : List (OV T)} {d t : Nat} {x : OV T} {b : Bool} (h : t ≠ d) : onB (o.set d x) t b = onB o t b := by
  unfold onB; rw [List.getElem?_set_ne (Ne.symm h)]
theorem way_set {o : List (OV T)} {d : Nat} {x : OV T} : ∀ {p : List (Nat × Bool)}, notIn d p = true → wayB (o.set d x) p = wayB o p
  | [], _ => rfl
  | (t, b) :: r, h => by
    simp only [notIn, List.all_cons, Bool.and_eq_true] at h
    rw [way_cons, way_cons, way_set (p := r) h.2, onB_set (beq_ne h.1)]
theorem conc_put {o : List (OV T)} {dst : Option Tmp} {g : List (Nat × Bool)} {v : AV T} (hf : freshB o g dst = true) : conc (putO o dst (g, v)) = putAV (conc o) dst (bif wayB o g then v else .tup []) := by
  cases dst with
  | none => rfl
  | some d =>
    simp only [freshB, Bool.and_eq_true] at hf
    show conc (o.set d (g, v)) = (conc o).set d _
    apply List.ext_getElem?
    intro j
    rw [conc_get, List.getElem?_set, List.getElem?_set]
    by_cases hj : d = j
    · subst hj
      simp only [if_true]
      have hl : (conc o).length = o.length := by simp [conc]
      rw [hl]
      split
      · simp [way_set hf.1]
      · rfl
    · rw [if_neg hj, if_neg hj, conc_get]
      cases hx : o[j]? with
      | none => rfl
      | some y =>
        have hm : y ∈ o := List.mem_of_getElem? hx
        simp only [Option.map_some, way_set (List.all_eq_true.1 hf.2 y hm)]
theorem guard_of_way {o : List (OV T)} {q : Oper} {g : List (Nat × Bool)} (h : wayOf ops o q = .go g) : guardOf ops (conc o) q = some (wayB o g) := by
  unfold wayOf at h
  unfold guardOf
  cases hg : q.guard with
  | none => rw [hg] at h; simp only [Way.go.injEq] at h; subst h; rfl
  | some jw =>
    obtain ⟨j, want⟩ := jw
    rw [hg] at h
    simp only at h ⊢
    cases ht : (ops[j]?).bind (·.dst) with
    | none => rw [ht] at h; cases h
    | some t =>
      rw [ht] at h
      simp only at h ⊢
      rw [conc_get]
      split at h
      · rename_i p b hx
        simp only [Way.go.injEq] at h
        subst h
        rw [hx, way_cons]
        simp only [Option.map_some]
        unfold onB
        rw [hx]
        cases wayB o p <;> rfl
      · cases h
      · cases h
      · cases h
      · cases h
theorem guard_of_no {o : List (OV T)} {q : Oper} (h : wayOf ops o q = .no) : guardOf ops (conc o) q = some false := by
  unfold wayOf at h
  unfold guardOf
  cases hg : q.guard with
  | none => rw [hg] at h; cases h
  | some jw =>
    obtain ⟨j, want⟩ := jw
    rw [hg] at h
    simp only at h ⊢
    cases ht : (ops[j]?).bind (·.dst) with
    | none => rfl
    | some t =>
      rw [ht] at h
      simp only at h ⊢
      rw [conc_get]
      split at h
      · cases h
      · rename_i p hx; rw [hx]; simp only [Option.map_some]; cases wayB o p <;> rfl
      · rename_i p k n hx; rw [hx]; simp only [Option.map_some]; cases wayB o p <;> rfl
      · rename_i hx; rw [hx]; rfl
      · cases h
theorem gather_inv {β : Type} {way : Bool} {K : β → Option α} {r : α} : ∀ {t : Tr β}, t.gather way K = some r → ∃ v, K v = some r ∧ (way = true → t.Has v)
  | .ret v, h => ⟨v, h, fun _ => rfl⟩
  | .fail, h => by simp [Tr.gather] at h
  | .br c x .fail, h => by
    rw [Tr.gather] at h
    obtain ⟨hc, h⟩ := cond_inv h
    obtain ⟨v, hk, hv⟩ := gather_inv (t := x) h
    refine ⟨v, hk, fun hw => ?_⟩
    subst hw
    simp only [Bool.not_true, Bool.or_false] at hc
    subst hc
    exact ⟨fun _ => hv rfl, fun h => by cases h⟩
  | .br c x (.ret _), h => by simp [Tr.gather] at h
  | .br c x (.br _ _ _), h => by simp [Tr.gather] at h
theorem pick1_eq {b : Bool} {x y z : AV T} (h : pick1 b x y = some z) : z = bif b then x else y := by
  unfold pick1 at h
  split at h
  · obtain rfl := Option.some.inj h; cases b <;> rfl
  · rename_i k x k' y
    cases hk : sameK k k' with
    | false => rw [hk] at h; cases h
    | true =>
      rw [hk] at h
      have := sameK_eq hk; subst this
      obtain rfl := Option.some.inj h; cases b <;> rfl
  · cases h
theorem pickL_eq {b : Bool} : ∀ {xs ys zs : List (AV T)}, pickL b xs ys = some zs → zs = bif b then xs else ys
  | [], [], zs, h => by simp only [pickL, Option.some.injEq] at h; subst h; cases b <;> rfl
  | [], _ :: _, zs, h => by simp [pickL] at h
  | _ :: _, [], zs, h => by simp [pickL] at h
  | x :: xs, y :: ys, zs, h => by
    rw [pickL] at h
    split at h
    · rename_i z zs' h1 h2
      obtain rfl := Option.some.inj h
      rw [pick1_eq h1, pickL_eq h2]
      cases b <;> rfl
    · cases h
theorem pickV_eq {b : Bool} {x y z : AV T} (h : pickV b x y = some z) : z = bif b then x else y := by
  unfold pickV at h
  split at h
  · obtain ⟨l, hl, rfl⟩ := map_some_inv h
    rw [pickL_eq hl]; cases b <;> rfl
  · exact pick1_eq h
theorem acc_conc {o : List (OV T)} {g1 g2 : List (Nat × Bool)} {x : Operand} {v : AV T} (h : accO o g1 g2 x = some v) (h1 : wayB o g1 = true) (h2 : wayB o g2 = true) : evOpd (conc o) x = v := by
  cases x with
  | tmp t =>
    simp only [evOpd, List.getD_eq_getElem?_getD, conc_get]
    unfold accO at h
    simp only at h
    split at h
    · rename_i y hy
      obtain ⟨hs, h⟩ := cond_inv h
      obtain rfl := Option.some.inj h
      simp only [Bool.or_eq_true] at hs
      have : wayB o y.1 = true := hs.elim (fun hs => suf_way hs h1) (fun hs => suf_way hs h2)
      rw [hy]; simp [this]
    · cases h
  | _ => exact Option.some.inj h
theorem pickO_conc {o : List (OV T)} {g : List (Nat × Bool)} {c x y : Operand} {v : AV T} (h : pickO g o c x y = some v) (hw : wayB o g = true) :
    ∃ b, evOpd (conc o) c = .bool b ∧ v = bif b then evOpd (conc o) x else evOpd (conc o) y := by
  unfold pickO at h
  split at h
  · rename_i t
    split at h
    · rename_i p b hx
      obtain ⟨hs, h⟩ := cond_inv h
      have hp := suf_way hs hw
      split at h
      · rename_i vx vy hvx hvy
        refine ⟨b, ?_, ?_⟩
        · simp only [evOpd, List.getD_eq_getElem?_getD, conc_get, hx]
          simp [hp]
        · rw [pickV_eq h]
          have hon : ∀ (w : Bool), onB o t w = (bif w then b else !b) := fun w => by unfold onB; rw [hx]
          cases b with
          | true => rw [acc_conc hvx (by rw [way_cons, hp, hon]; rfl) (by rw [way_cons, hw, hon]; rfl)]; rfl
          | false => rw [acc_conc hvy (by rw [way_cons, hp, hon]; rfl) (by rw [way_cons, hw, hon]; rfl)]; rfl
      · cases h
    · cases h
  · cases h
variable {allowed : Nat → Bool} {nid : Nat} {q : Oper} {K : AV T → Hp T → Option α} {r : α}
theorem pureW (hc : classOf q = 0) {way : Bool} (h : (match evPure I P (evOpd env) q with
    | some (g, v) => bif g || !way then K v hp else none
    | none => none) = some r) : ∃ v, K v hp = some r ∧ (way = true → Out I P spec allowed nid q env hp v hp) := by
  cases hp' : evPure I P (evOpd env) q with
  | none => rw [hp'] at h; cases h
  | some gv =>
    obtain ⟨g, v⟩ := gv
    rw [hp'] at h
    obtain ⟨hg, h⟩ := cond_inv h
    refine ⟨v, h, fun hw => ?_⟩
    subst hw
    simp only [Bool.not_true, Bool.or_false] at hg
    subst hg
    exact .pure _ _ hc hp'
theorem out_static {hp' : Hp T} {v : AV T} (ho : (∃ t x, q.op = .load t x) ∨ ∃ t n ps, q.op = .buildSlice t n ps) (h : Out I P spec allowed nid q env hp v hp') : hp' = hp := by
  cases h with
  | pure => rfl
  | pick => rfl
  | loadR => rfl
  | loadE => rfl
  | store t A x id off n xs ho' => rcases ho with ⟨_, _, h⟩ | ⟨_, _, _, h⟩ <;> rw [h] at ho' <;> cases ho'
  | alloc t z ho' => rcases ho with ⟨_, _, h⟩ | ⟨_, _, _, h⟩ <;> rw [h] at ho' <;> cases ho'
  | box t x ho' => rcases ho with ⟨_, _, h⟩ | ⟨_, _, _, h⟩ <;> rw [h] at ho' <;> cases ho'
  | buildSlice => rfl
  | call => rfl
theorem static_inv (ho : (∃ t x, q.op = .load t x) ∨ ∃ t n ps, q.op = .buildSlice t n ps) (h : (match evOp (α := AV T) I P spec allowed nid q env hp fun v _ => some v with
    | some v => K v hp
    | none => none) = some r) : ∃ v, K v hp = some r ∧ Out I P spec allowed nid q env hp v hp := by
  split at h
  · rename_i v hv
    obtain ⟨v', hp', hout, hk⟩ := evOp_out hv
    obtain rfl := Option.some.inj hk
    have := out_static ho hout
    subst this
    exact ⟨_, h, hout⟩
  · cases h
theorem evOpW_inv {way : Bool} (h : evOpW I P spec way allowed nid q env hp K = some r) : ∃ v, K v hp = some r ∧ (way = true → Out I P spec allowed nid q env hp v hp) := by
  unfold evOpW at h
  split at h
  · cases h
  · cases h
  · cases h
  · cases h
  · rename_i ho
    obtain ⟨v, hk, hout⟩ := static_inv (.inl ⟨_, _, ho⟩) h
    exact ⟨v, hk, fun _ => hout⟩
  · rename_i ho
    obtain ⟨v, hk, hout⟩ := static_inv (.inr ⟨_, _, _, ho⟩) h
    exact ⟨v, hk, fun _ => hout⟩
  · rename_i c ho
    split at h
    · rename_i f hf
      split at h
      · rename_i n hfn
        obtain ⟨hcl, h⟩ := cond_inv h
        obtain ⟨v, hk, hv⟩ := gather_inv h
        exact ⟨v, hk, fun hw => .call hp c f n v ho hf hfn hcl (hv hw)⟩
      · cases h
    · exact pureW (by unfold classOf; rw [ho]) h
  · refine pureW ?_ h
    unfold classOf
    split <;> simp_all
theorem evOpG_inv {o : List (OV T)} {g : List (Nat × Bool)} (h : evOpG I P spec g allowed nid q o hp K = some r) :
    ∃ v hp', K v hp' = some r ∧ (wayB o g = true → Out I P spec allowed nid q (conc o) hp v hp') ∧ (wayB o g = false → hp' = hp) := by
  unfold evOpG at h
  split at h
  · rename_i c x y ho
    split at h
    · rename_i v hv
      refine ⟨v, hp, h, fun hw => ?_, fun _ => rfl⟩
      obtain ⟨b, hb, rfl⟩ := pickO_conc hv hw
      exact .pick hp c x y b ho hb
    · cases h
  · obtain ⟨hok, h⟩ := cond_inv h
    split at h
    · obtain ⟨v, hp', hout, hk⟩ := evOp_out h
      exact ⟨v, hp', hk, fun hw => out_congr (opds_conc hw hok) hout, fun hw => by cases hw⟩
    · rw [withWay_eq] at h
      obtain ⟨v, hk, hout⟩ := evOpW_inv h
      exact ⟨v, hp, hk, fun hw => out_congr (opds_conc hw hok) (hout hw), fun _ => rfl⟩
theorem evOpsO_run {K : List (AV T) → Hp T → Option α} : ∀ (l : List Nat) (o : List (OV T)) (hp : Hp T), evOpsO I P spec ops allow base l o hp K = some r →
    ∃ o' hp', Run I P spec ops allow base l (conc o) hp (conc o') hp' ∧ K (clean o') hp' = some r
  | [], o, hp, h => ⟨o, hp, .nil _ _, h⟩
  | i :: l, o, hp, h => by
    rw [evOpsO] at h
    cases hq : ops[i]? with
    | none => rw [hq] at h; cases h
    | some q =>
      rw [hq] at h
      simp only [forceV_eq, spine_eq, spineO_eq] at h
      split at h
      · rename_i hw
        obtain ⟨hf, h⟩ := cond_inv h
        obtain ⟨o2, hp2, hrun, hk⟩ := evOpsO_run l _ _ h
        rw [conc_put hf] at hrun
        refine ⟨o2, hp2, .cons _ _ _ _ _ _ _ _ (.skip q hq (guard_of_no hw)) ?_, hk⟩
        simpa [wayB] using hrun
      · rename_i g hw
        obtain ⟨hf, h⟩ := cond_inv h
        obtain ⟨v, hp1, hk1, hgo, hno⟩ := evOpG_inv h
        obtain ⟨o2, hp2, hrun, hk⟩ := evOpsO_run l _ _ hk1
        rw [conc_put hf] at hrun
        have hg := guard_of_way hw
        cases hb : wayB o g with
        | true =>
          rw [hb] at hg hrun
          exact ⟨o2, hp2, .cons _ _ _ _ _ _ _ _ (.go q v hp1 hq hg (hgo hb)) hrun, hk⟩
        | false =>
          rw [hb] at hg hrun
          obtain rfl := hno hb
          exact ⟨o2, hp2, .cons _ _ _ _ _ _ _ _ (.skip q hq hg) hrun, hk⟩
      · cases h
theorem conc_lift (env : List (AV T)) : conc (lift env) = env := by
  apply List.ext_getElem?
  intro j
  rw [conc_get]
  simp only [lift, List.getElem?_map, Option.map_map]
  cases env[j]? <;> simp [wayB]
theorem Rel.clean {o : List (OV T)} (h : Rel I W0 M0 (conc o) hp a w e) : Rel I W0 M0 (clean o) hp a w e := by
  refine ⟨h.defers, ⟨by have := h.env.1; simpa [Ev.clean, conc] using this, fun j x v hx hv => ?_⟩, h.inv⟩
  simp only [Ev.clean, List.getElem?_map] at hx
  cases hy : o[j]? with
  | none => rw [hy] at hx; cases hx
  | some y =>
    rw [hy] at hx
    obtain ⟨p, u⟩ := y
    simp only [Option.map_some, Option.some.injEq] at hx
    cases p with
    | nil =>
      simp only at hx
      subst hx
      exact h.env.2 j u v (by rw [conc_get, hy]; rfl) hv
    | cons _ _ => simp only at hx; subst hx; exact .any _
/-- **Regions.** -/
theorem region_sound (hS : SpecOk I P spec) (hm : P.follows .mixedOrders = true) {id : Nat} {draw one : Bool} {r : α} {K : List (AV T) → Hp T → Option α} (h : evRegion I P spec ops draw one env hp K = some r) (hR : Rel I W0 M0 env hp a w e) {Q : Exit → Act → World → Prop}
    (hQ : ∀ env' hp' a' w' e', K env' hp' = some r → Rel I W0 M0 env' hp' a' w' e' → Q .normal a' w') : (Code.region id ops draw).wp P Q a w := by
  unfold evRegion at h
  simp only at h
  have hR' : Rel I W0 M0 env (bif makes ops then hp ++ List.replicate ops.size none else hp) a w e := by
    cases makes ops with
    | true => exact hR.pad _
    | false => exact hR
  generalize (bif makes ops then hp ++ List.replicate ops.size none else hp) = hp2 at h hR'
  have key : ∀ allow : Nat → Nat → Bool, (bif one then evOpsO I P spec ops allow hp.length (List.range ops.size) (lift env) hp2 (fun env' hp' => spine env' fun env' => K env' hp') else evOps I P spec ops allow hp.length (List.range ops.size) env hp2 K) = some r →
      ∃ env' hp', Run I P spec ops allow hp.length (List.range ops.size) env hp2 env' hp' ∧ ∀ a' w' e', Rel I W0 M0 env' hp' a' w' e' → Q .normal a' w' := by
    intro allow h
    cases one with
    | false =>
      obtain ⟨env', hp', hrun, hk⟩ := evOps_run _ _ _ h
      exact ⟨env', hp', hrun, fun a' w' e' hR'' => hQ env' hp' a' w' e' hk hR''⟩
    | true =>
      obtain ⟨o', hp', hrun, hk⟩ := evOpsO_run _ _ _ h
      simp only [spine_eq] at hk
      rw [conc_lift] at hrun
      exact ⟨conc o', hp', hrun, fun a' w' e' hR'' => hQ _ hp' a' w' e' hk hR''.clean⟩
  cases draw with
  | false =>
    obtain ⟨env', hp', hrun, hk⟩ := key _ h
    exact wp_region (run_wp hS hrun hR' hk)
  | true =>
    obtain ⟨hg, h⟩ := cond_inv h
    obtain ⟨env', hp', hrun, hk⟩ := key _ h
    unfold goodRegion at hg
    simp only [Bool.and_eq_true, Region.lexB] at hg
    refine wp_region_any hm (anyA_wp (allow := allowedIn ops hp.length) (base := hp.length) hS (fun a' w' e' hR'' => hk a' w' e' hR'') ops.size _ env hp2 a _ e ?_ hR'.drew)
    refine anyA_lex hg.2 ops.size 0 _ env hp2 (by omega) (fun j hj => absurd hj (Nat.not_lt_zero _)) (by simpa using hg.1.2) ?_
    rw [List.range_eq_range'] at hrun
    exact hrun
end
end Go.Proofs.Ytamfgbenceoleaa.Ev
