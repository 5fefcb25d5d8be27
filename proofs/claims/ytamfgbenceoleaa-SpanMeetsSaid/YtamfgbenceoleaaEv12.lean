import Derived.Test.YtamfgbenceoleaaEv11
namespace Go.Proofs.Ytamfgbenceoleaa.Ev
set_option linter.unusedVariables false
set_option linter.unusedSimpArgs false
set_option linter.unusedSectionVars false
set_option linter.unnecessarySimpa false
open Go.RowKit
section
variable {T : Type} {I : Interp T} {P : Program}
variable {spec : FuncId → List (AV T) → Tr (AV T)}
theorem evOpd_put {env : List (AV T)} {dst : Option Tmp} {u : AV T} {x : Operand} (h : ∀ d, dst = some d → x ≠ .tmp d) : evOpd (putAV env dst u) x = evOpd env x := by
  cases dst with
  | none => rfl
  | some d =>
    cases x with
    | tmp t =>
      have hne : d ≠ t := fun e => h d rfl (e ▸ rfl)
      simp [evOpd, putAV, List.getD_eq_getElem?_getD, List.getElem?_set_ne hne]
    | _ => rfl
theorem putAV_comm (env : List (AV T)) {x y : Option Tmp} (v u : AV T) (h : ∀ d, x = some d → y ≠ some d) : putAV (putAV env x v) y u = putAV (putAV env y u) x v := by
  cases x with
  | none => rfl
  | some d =>
    cases y with
    | none => rfl
    | some e =>
      have hne : d ≠ e := fun he => h d rfl (he ▸ rfl)
      simp [putAV, List.set_comm _ _ hne]
theorem evPure_congr {ρ ρ' : Operand → AV T} (o : Oper) (h : ∀ x ∈ o.op.operands, ρ x = ρ' x) : evPure I P ρ o = evPure I P ρ' o := by
  obtain ⟨dst, op, type, pos, after, guard⟩ := o
  cases op <;> simp only [Op.operands] at h <;> unfold evPure <;> simp only
  case move x => rw [h x (by simp)]
  case assign x => rw [h x (by simp)]
  case build t ps =>
    rw [show (ps.toList.map fun p => (p.1, ρ p.2)) = ps.toList.map fun p => (p.1, ρ' p.2) from List.map_congr_left fun p hp => by rw [h p.2 (by simp; exact ⟨p.1, by simpa using hp⟩)]]
  case nilCheck x => rw [h x (by simp)]
  case binOp op t x y ty => rw [h x (by simp), h y (by simp)]
  case unOp op t x => rw [h x (by simp)]
  case convert s t x => rw [h x (by simp)]
  case fieldAddr s x f => rw [h x (by simp)]
  case field s x f => rw [h x (by simp)]
  case indexAddr t x i => rw [h x (by simp), h i (by simp)]
  case index t x i => rw [h x (by simp), h i (by simp)]
  case extract x k => rw [h x (by simp)]
  case call c =>
    rw [show c.args.toList.map ρ = c.args.toList.map ρ' from List.map_congr_left fun x hx => h x (by simp [Call.operands]; exact .inr (by simpa using hx))]
variable {allowed : Nat → Bool} {nid : Nat} {o : Oper} {env : List (AV T)} {hp hp' : Hp T} {v : AV T}
theorem out_congr {env' : List (AV T)} (hx : ∀ x ∈ o.op.operands, evOpd env x = evOpd env' x) (h : Out I P spec allowed nid o env hp v hp') : Out I P spec allowed nid o env' hp v hp' := by
  cases h with
  | pure _ hc hev => exact .pure _ _ hc (by rw [← evPure_congr o hx]; exact hev)
  | pick c x y b ho hb =>
    rw [ho] at hx
    rw [hx x (by simp [Op.operands]), hx y (by simp [Op.operands])]
    exact .pick _ c x y b ho (by rw [← hx c (by simp [Op.operands])]; exact hb)
  | loadR t A id off xs _ ho ha hal hid hv => rw [ho] at hx; exact .loadR _ t A id off xs _ ho (by rw [← hx A (by simp [Op.operands])]; exact ha) hal hid hv
  | loadE t A xs off _ ho ha hv => rw [ho] at hx; exact .loadE _ t A xs off _ ho (by rw [← hx A (by simp [Op.operands])]; exact ha) hv
  | store t A x id off n xs ho ha hs hal hid hn hle hone =>
    rw [ho] at hx
    have e1 := hx A (by simp [Op.operands])
    have e2 := hx x (by simp [Op.operands])
    rw [e2] at hn hone ⊢
    exact .store _ t A x id off n xs ho (by rw [← e1]; exact ha) hs hal hid hn hle hone
  | alloc t z ho hz hne hn => exact .alloc _ t z ho hz hne hn
  | box t x ho hne hn =>
    rw [ho] at hx
    have e := hx x (by simp [Op.operands])
    rw [e] at hne ⊢
    exact .box _ t x ho hne hn
  | buildSlice t len parts elem sz z xs ho hu hs hz hne hzl h0 hle hcl hfill =>
    rw [ho] at hx
    refine .buildSlice _ t len parts elem sz z xs ho hu hs hz hne hzl h0 hle hcl ?_
    rw [← hfill]
    congr 1
    exact List.map_congr_left fun p hp => by rw [hx p.2 (by simp [Op.operands]; exact ⟨p.1, by simpa using hp⟩)]
  | call c f n _ ho hc hf hcl hv =>
    rw [ho] at hx
    have e : c.args.toList.map (evOpd env) = c.args.toList.map (evOpd env') := List.map_congr_left fun x hm => hx x (by simp [Op.operands, Call.operands]; exact .inr (by simpa using hm))
    rw [e] at hcl hv
    exact .call _ c f n _ ho hc (by rw [← hx f (by simp [Op.operands, Call.operands, hc])]; exact hf) hcl hv
/-- What an operation has to do with the variables, by its class. -/
theorem out_class (h : Out I P spec allowed nid o env hp v hp') :
    (classOf o = 0 ∧ hp' = hp ∧ ∀ h2, Out I P spec allowed nid o env h2 v h2) ∨
    (classOf o = 1 ∧ hp' = hp ∧ ∀ h2 : Hp T, (∀ (id : Nat) xs, allowed id = true → hp[id]? = some (some xs) → h2[id]? = some (some xs)) → Out I P spec allowed nid o env h2 v h2) ∨
    (classOf o = 2 ∧ hp[nid]? = some none ∧ ∃ xs, hp' = hp.set nid (some xs) ∧ ∀ h2 : Hp T, h2[nid]? = some none → Out I P spec allowed nid o env h2 v (h2.set nid (some xs))) ∨
    (classOf o = 3 ∧ ∃ (id : Nat) (xs xs' : List (AV T)), allowed id = true ∧ hp[id]? = some (some xs) ∧ hp' = hp.set id (some xs') ∧ ∀ h2 : Hp T, h2[id]? = some (some xs) → Out I P spec allowed nid o env h2 v (h2.set id (some xs'))) := by
  cases h with
  | pure _ hc hev => exact .inl ⟨hc, rfl, fun h2 => .pure _ _ hc hev⟩
  | pick c x y b ho hb => exact .inl ⟨by unfold classOf; rw [ho], rfl, fun h2 => .pick _ c x y b ho hb⟩
  | loadR t A id off xs _ ho ha hal hid hv => exact .inr (.inl ⟨by unfold classOf; rw [ho], rfl, fun h2 hh => .loadR _ t A id off xs _ ho ha hal (hh id xs hal hid) hv⟩)
  | loadE t A xs off _ ho ha hv => exact .inr (.inl ⟨by unfold classOf; rw [ho], rfl, fun h2 hh => .loadE _ t A xs off _ ho ha hv⟩)
  | store t A x id off n xs ho ha hs hal hid hn hle hone => exact .inr (.inr (.inr ⟨by unfold classOf; rw [ho], id, xs, _, hal, hid, rfl, fun h2 hh => .store _ t A x id off n xs ho ha hs hal hh hn hle hone⟩))
  | alloc t z ho hz hne hn => exact .inr (.inr (.inl ⟨by unfold classOf; rw [ho], hn, _, rfl, fun h2 hh => .alloc _ t z ho hz hne hh⟩))
  | box t x ho hne hn => exact .inr (.inr (.inl ⟨by unfold classOf; rw [ho], hn, _, rfl, fun h2 hh => .box _ t x ho hne hh⟩))
  | buildSlice t len parts elem sz z xs ho hu hs hz hne hzl h0 hle hcl hfill => exact .inl ⟨by unfold classOf; rw [ho], rfl, fun h2 => .buildSlice _ t len parts elem sz z xs ho hu hs hz hne hzl h0 hle hcl hfill⟩
  | call c f n _ ho hc hf hcl hv => exact .inl ⟨by unfold classOf; rw [ho], rfl, fun h2 => .call _ c f n _ ho hc hf hcl hv⟩
/-- One operation of a region comes up. -/
inductive Step (I : Interp T) (P : Program) (spec : FuncId → List (AV T) → Tr (AV T)) (ops : Array Oper) (allowed : Nat → Nat → Bool) (base i : Nat) (env : List (AV T)) (hp : Hp T) : List (AV T) → Hp T → Prop
  | go (q : Oper) (x : AV T) (hp1 : Hp T) : ops[i]? = some q → guardOf ops env q = some true → Out I P spec (allowed i) (base + i) q env hp x hp1 → Step I P spec ops allowed base i env hp (putAV env q.dst x) hp1
  | skip (q : Oper) : ops[i]? = some q → guardOf ops env q = some false → Step I P spec ops allowed base i env hp (putAV env q.dst (.tup [])) hp
variable {ops : Array Oper} {base : Nat} {allow : Nat → Nat → Bool}
theorem guardOf_put {dst : Option Tmp} {u : AV T} (h : ∀ d, dst = some d → d ∉ o.looksAt ops) : guardOf ops (putAV env dst u) o = guardOf ops env o := by
  cases dst with
  | none => rfl
  | some d =>
    unfold guardOf
    cases hg : o.guard with
    | none => rfl
    | some gw =>
      obtain ⟨g, want⟩ := gw
      simp only
      cases ht : (ops[g]?).bind (·.dst) with
      | none => rfl
      | some t =>
        have hne : d ≠ t := fun e => h d rfl (by subst e; simp [Oper.looksAt, hg, ht])
        simp only [putAV, List.getElem?_set_ne hne]
theorem opds_put {dst : Option Tmp} {u : AV T} (h : ∀ d, dst = some d → d ∉ o.looksAt ops) : ∀ x ∈ o.op.operands, evOpd env x = evOpd (putAV env dst u) x := fun x hx =>
  (evOpd_put fun d hd hxd => h d hd (by
    subst hxd
    exact List.mem_append_left _ (List.mem_filterMap.2 ⟨.tmp d, by simpa using hx, rfl⟩))).symm
theorem opds_put' {dst : Option Tmp} {u : AV T} (h : ∀ d, dst = some d → d ∉ o.looksAt ops) : ∀ x ∈ o.op.operands, evOpd (putAV env dst u) x = evOpd env x := fun x hx => (opds_put h x hx).symm
theorem allowed_load {i : Nat} {oi : Oper} (hi : ops[i]? = some oi) (hc : classOf oi = 1) {k id : Nat} (hk : ∀ e ∈ oi.after, Region.binds .any e = true → e.on ≠ k) (h : allowedIn ops base i id = true) : id ≠ base + k := by
  unfold allowedIn at h
  rw [hi] at h
  simp only [hc, Bool.or_eq_true, show Nat.beq 1 3 = false from rfl, cond_false] at h
  rintro rfl
  rcases h with h | h
  · have := Nat.blt_eq.mp h; omega
  · obtain ⟨e, he, hb⟩ := Array.any_eq_true'.1 h
    simp only [Bool.and_eq_true, Nat.beq_eq] at hb
    exact hk e he hb.1 (by omega)
theorem allowed_store {i : Nat} {oi : Oper} (hi : ops[i]? = some oi) (hc : classOf oi = 3) {k id : Nat} (hk : storeAt ops oi = some k) (h : allowedIn ops base i id = true) : id = base + k := by
  unfold allowedIn at h
  rw [hi] at h
  simp only [hc, hk, show Nat.beq 3 3 = true from rfl, cond_true] at h
  exact Nat.eq_of_beq_eq_true h
theorem waitsFor_not {o : Oper} {k : Nat} (h : waitsFor o k = false) : ∀ e ∈ o.after, Region.binds .any e = true → e.on ≠ k := by
  intro e he hb heq
  have : waitsFor o k = true := by
    unfold waitsFor
    exact Array.any_eq_true'.2 ⟨e, he, by simp [hb, heq]⟩
  rw [this] at h; cases h
theorem beq_ne {a b : Nat} (h : (!Nat.beq a b) = true) : a ≠ b := by
  rintro rfl
  rw [Nat.beq_refl] at h; cases h
/-- A store, and an operation that isn't one of class 0. -/
theorem okStore_inv {o : Oper} {j : Nat} {oj : Oper} (h : okStore ops o j oj = true) (h0 : classOf oj ≠ 0) :
    ∃ k, storeAt ops o = some k ∧ (classOf oj = 1 → ∀ e ∈ oj.after, Region.binds .any e = true → e.on ≠ k) ∧ (classOf oj = 2 → k ≠ j) ∧ (classOf oj = 3 → ∃ k', storeAt ops oj = some k' ∧ k ≠ k') := by
  unfold okStore at h
  rw [show Nat.beq (classOf oj) 0 = false by cases hc : Nat.beq (classOf oj) 0 with
    | false => rfl
    | true => exact absurd (Nat.eq_of_beq_eq_true hc) h0] at h
  simp only [cond_false] at h
  cases hs : storeAt ops o with
  | none => rw [hs] at h; cases h
  | some k =>
    rw [hs] at h
    refine ⟨k, rfl, fun hc => ?_, fun hc => ?_, fun hc => ?_⟩
    · rw [hc] at h
      exact waitsFor_not (by simpa using h)
    · rw [hc] at h
      exact beq_ne h
    · rw [hc] at h
      simp only [show Nat.beq 3 1 = false from rfl, show Nat.beq 3 2 = false from rfl, cond_false] at h
      cases hk : storeAt ops oj with
      | none => rw [hk] at h; cases h
      | some k' => rw [hk] at h; exact ⟨k', rfl, beq_ne h⟩
/-- Two operations that wait for none of both may change places. -/
theorem step_swap {i j : Nat} {oi oj : Oper} (hi : ops[i]? = some oi) (hj : ops[j]? = some oj) (hne : i ≠ j) (hap : oi.apart ops oj = true) (hok : okPair ops i oi j oj = true) (hno : ∀ e ∈ oj.after, Region.binds .any e = true → e.on ≠ i)
    {env1 env2 : List (AV T)} {hp1 hp2 : Hp T} (h1 : Step I P spec ops (allowedIn ops base) base i env hp env1 hp1) (h2 : Step I P spec ops (allowedIn ops base) base j env1 hp1 env2 hp2) :
    ∃ e1 q1, Step I P spec ops (allowedIn ops base) base j env hp e1 q1 ∧ Step I P spec ops (allowedIn ops base) base i e1 q1 env2 hp2 := by
  obtain ⟨a1, a2, a3⟩ := Oper.apart_spec hap
  cases h1 with
  | skip o ho hg =>
    rw [hi] at ho; obtain rfl := Option.some.inj ho
    cases h2 with
    | skip o' ho' hg' =>
      rw [hj] at ho'; obtain rfl := Option.some.inj ho'
      rw [guardOf_put a1] at hg'
      refine ⟨_, _, .skip oj hj hg', ?_⟩
      rw [putAV_comm env _ _ a2]
      exact .skip oi hi (by rw [guardOf_put a3]; exact hg)
    | go o' v' _ ho' hg' hout =>
      rw [hj] at ho'; obtain rfl := Option.some.inj ho'
      rw [guardOf_put a1] at hg'
      refine ⟨_, _, .go oj v' hp2 hj hg' (out_congr (opds_put' a1) hout), ?_⟩
      rw [putAV_comm env _ _ a2]
      exact .skip oi hi (by rw [guardOf_put a3]; exact hg)
  | go o v _ ho hg hout =>
    rw [hi] at ho; obtain rfl := Option.some.inj ho
    cases h2 with
    | skip o' ho' hg' =>
      rw [hj] at ho'; obtain rfl := Option.some.inj ho'
      rw [guardOf_put a1] at hg'
      refine ⟨_, _, .skip oj hj hg', ?_⟩
      rw [putAV_comm env _ _ a2]
      exact .go oi v hp1 hi (by rw [guardOf_put a3]; exact hg) (out_congr (opds_put a3) hout)
    | go o' v' _ ho' hg' hout' =>
      rw [hj] at ho'; obtain rfl := Option.some.inj ho'
      rw [guardOf_put a1] at hg'
      have hout'' := out_congr (opds_put' a1) hout'
      have hgi : ∀ u, guardOf ops (putAV env oj.dst u) oi = some true := fun u => by rw [guardOf_put a3]; exact hg
      rw [putAV_comm env _ _ a2]
      have hsi : classOf oi = 3 → okStore ops oi j oj = true := fun hc => by unfold okPair at hok; rw [hc] at hok; exact hok
      have hsj : classOf oi ≠ 3 → classOf oj = 3 → okStore ops oj i oi = true := fun hc hc' => by
        unfold okPair at hok
        rw [show Nat.beq (classOf oi) 3 = false by cases hx : Nat.beq (classOf oi) 3 with
          | false => rfl
          | true => exact absurd (Nat.eq_of_beq_eq_true hx) hc, hc'] at hok
        exact hok
      rcases out_class hout with ⟨ci, rfl, ki⟩ | ⟨ci, rfl, ki⟩ | ⟨ci, ni, xi, rfl, ki⟩ | ⟨ci, di, yi, xi, ai, ni, rfl, ki⟩
      · exact ⟨_, _, .go oj v' hp2 hj hg' hout'', .go oi v _ hi (hgi _) (out_congr (opds_put a3) (ki hp2))⟩
      · rcases out_class hout'' with ⟨cj, rfl, kj⟩ | ⟨cj, rfl, kj⟩ | ⟨cj, nj, xj, rfl, kj⟩ | ⟨cj, dj, yj, xj, aj, nj, rfl, kj⟩
        · exact ⟨_, _, .go oj v' _ hj hg' hout'', .go oi v _ hi (hgi _) (out_congr (opds_put a3) hout)⟩
        · exact ⟨_, _, .go oj v' _ hj hg' hout'', .go oi v _ hi (hgi _) (out_congr (opds_put a3) hout)⟩
        · refine ⟨_, _, .go oj v' _ hj hg' hout'', .go oi v _ hi (hgi _) (out_congr (opds_put a3) (ki _ fun id xs _ hid => ?_))⟩
          rw [List.getElem?_set_ne (fun h0 => by rw [h0] at nj; rw [nj] at hid; cases hid)]
          exact hid
        · obtain ⟨k, hk, hk1, _, _⟩ := okStore_inv (hsj (by omega) cj) (by omega)
          have hd := allowed_store hj cj hk aj
          refine ⟨_, _, .go oj v' _ hj hg' hout'', .go oi v _ hi (hgi _) (out_congr (opds_put a3) (ki _ fun id xs hid hx => ?_))⟩
          rw [List.getElem?_set_ne (fun h0 => allowed_load hi ci (hk1 ci) hid (by omega))]
          exact hx
      · rcases out_class hout'' with ⟨cj, rfl, kj⟩ | ⟨cj, rfl, kj⟩ | ⟨cj, nj, xj, rfl, kj⟩ | ⟨cj, dj, yj, xj, aj, nj, rfl, kj⟩
        · exact ⟨_, _, .go oj v' hp hj hg' (kj hp), .go oi v _ hi (hgi _) (out_congr (opds_put a3) hout)⟩
        · refine ⟨_, _, .go oj v' hp hj hg' (kj hp fun id xs hid hx => ?_), .go oi v _ hi (hgi _) (out_congr (opds_put a3) hout)⟩
          rw [List.getElem?_set_ne (Ne.symm (allowed_load hj cj hno hid))] at hx
          exact hx
        · have hn : base + i ≠ base + j := by omega
          rw [List.getElem?_set_ne hn] at nj
          refine ⟨_, _, .go oj v' _ hj hg' (kj hp nj), ?_⟩
          rw [List.set_comm _ _ hn]
          exact .go oi v _ hi (hgi _) (out_congr (opds_put a3) (ki _ (by rw [List.getElem?_set_ne (Ne.symm hn)]; exact ni)))
        · obtain ⟨k, hk, _, hk2, _⟩ := okStore_inv (hsj (by omega) cj) (by omega)
          have hd := allowed_store hj cj hk aj
          have hn : base + i ≠ dj := by have := hk2 ci; omega
          rw [List.getElem?_set_ne hn] at nj
          refine ⟨_, _, .go oj v' _ hj hg' (kj hp nj), ?_⟩
          rw [List.set_comm _ _ hn]
          exact .go oi v _ hi (hgi _) (out_congr (opds_put a3) (ki _ (by rw [List.getElem?_set_ne (Ne.symm hn)]; exact ni)))
      · rcases out_class hout'' with ⟨cj, rfl, kj⟩ | ⟨cj, rfl, kj⟩ | ⟨cj, nj, xj, rfl, kj⟩ | ⟨cj, dj, yj, xj, aj, nj, rfl, kj⟩
        · exact ⟨_, _, .go oj v' hp hj hg' (kj hp), .go oi v _ hi (hgi _) (out_congr (opds_put a3) hout)⟩
        · obtain ⟨k, hk, hk1, _, _⟩ := okStore_inv (hsi ci) (by omega)
          have hd := allowed_store hi ci hk ai
          refine ⟨_, _, .go oj v' hp hj hg' (kj hp fun id xs hid hx => ?_), .go oi v _ hi (hgi _) (out_congr (opds_put a3) hout)⟩
          rw [List.getElem?_set_ne (fun h0 => allowed_load hj cj (hk1 cj) hid (by omega))] at hx
          exact hx
        · obtain ⟨k, hk, _, hk2, _⟩ := okStore_inv (hsi ci) (by omega)
          have hd := allowed_store hi ci hk ai
          have hn : di ≠ base + j := by have := hk2 cj; omega
          rw [List.getElem?_set_ne hn] at nj
          refine ⟨_, _, .go oj v' _ hj hg' (kj hp nj), ?_⟩
          rw [List.set_comm _ _ hn]
          exact .go oi v _ hi (hgi _) (out_congr (opds_put a3) (ki _ (by rw [List.getElem?_set_ne (Ne.symm hn)]; exact ni)))
        · obtain ⟨k, hk, _, _, hk3⟩ := okStore_inv (hsi ci) (by omega)
          obtain ⟨k', hk', hkk⟩ := hk3 cj
          have hd := allowed_store hi ci hk ai
          have hd' := allowed_store hj cj hk' aj
          have hn : di ≠ dj := by omega
          rw [List.getElem?_set_ne hn] at nj
          refine ⟨_, _, .go oj v' _ hj hg' (kj hp nj), ?_⟩
          rw [List.set_comm _ _ hn]
          exact .go oi v _ hi (hgi _) (out_congr (opds_put a3) (ki _ (by rw [List.getElem?_set_ne (Ne.symm hn)]; exact ni)))
end
end Go.Proofs.Ytamfgbenceoleaa.Ev
