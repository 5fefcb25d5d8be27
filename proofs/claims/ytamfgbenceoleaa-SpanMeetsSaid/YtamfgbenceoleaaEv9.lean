import Derived.Test.YtamfgbenceoleaaEv8
import Derived.Laws.NewFold
namespace Go.Proofs.Ytamfgbenceoleaa.Ev
set_option linter.unusedVariables false
set_option linter.unusedSimpArgs false
set_option linter.unusedSectionVars false
set_option linter.unnecessarySimpa false
open Go.RowKit
section
variable {T : Type} {I : Interp T} {P : Program}
/-- The blocks that may be written: those barred from the start, and those of the variables. -/
def Mut (M0 : Nat → Prop) (e : Nat → Option Nat) (b : Nat) : Prop := M0 b ∨ ∃ id, e id = some b
/-- The variables in memory. -/
structure Inv (I : Interp T) (W0 : World) (M0 : Nat → Prop) (w : World) (hp : Hp T) (e : Nat → Option Nat) : Prop where
  box : ∀ (id : Nat) xs, hp[id]? = some (some xs) → ∃ (b : Nat) (vs : Array Value) (ty : TypeId), e id = some b ∧ w.heap[b]? = some (.cells vs ty (0, 0)) ∧ RepL I w (Mut M0 e) e xs vs.toList
  non : ∀ (id : Nat), (∀ xs, hp[id]? ≠ some (some xs)) → e id = none
  inj : ∀ id id' b, e id = some b → e id' = some b → id = id'
  new : ∀ id b, e id = some b → W0.heap.size ≤ b
  old : ∀ b, M0 b → b < W0.heap.size
  bel : Below W0.heap.size W0 w
variable {W0 : World} {M0 : Nat → Prop} {w w' : World} {hp : Hp T} {e : Nat → Option Nat}
theorem Inv.lt (h : Inv I W0 M0 w hp e) {b : Nat} (hb : Mut M0 e b) : b < w.heap.size := by
  rcases hb with hb | ⟨id, hb⟩
  · exact Nat.lt_of_lt_of_le (h.old b hb) h.bel.size
  · cases hx : hp[id]? with
    | none => rw [h.non id (by simp [hx])] at hb; cases hb
    | some x =>
      cases x with
      | none => rw [h.non id (by simp [hx])] at hb; cases hb
      | some xs =>
        obtain ⟨b', vs, ty, h1, h2, h3⟩ := h.box id xs hx
        rw [hb] at h1; cases h1
        exact (Array.getElem?_eq_some_iff.1 h2).1
theorem Inv.below (h : Inv I W0 M0 w hp e) (hb : Below w.heap.size w w') : Inv I W0 M0 w' hp e ∧ Ext w (Mut M0 e) e w' (Mut M0 e) e := by
  have hx : Ext w (Mut M0 e) e w' (Mut M0 e) e := ⟨hb.size, fun b hlt _ => hb.block b hlt, fun _ _ h => h, fun _ h => .inl h⟩
  refine ⟨⟨fun id xs hid => ?_, h.non, h.inj, h.new, h.old, h.bel.trans (hb.mono h.bel.size)⟩, hx⟩
  obtain ⟨b, vs, ty, h1, h2, h3⟩ := h.box id xs hid
  exact ⟨b, vs, ty, h1, by rw [hb.block b (h.lt (.inr ⟨id, h1⟩))]; exact h2, h3.ext hx⟩
def upd (e : Nat → Option Nat) (id b : Nat) : Nat → Option Nat := fun i => if i = id then some b else e i
theorem Inv.alloc (h : Inv I W0 M0 w hp e) {nid : Nat} (hn : hp[nid]? = some none) {xs : List (AV T)} {vs : Array Value} (ty : TypeId) (hr : RepL I w (Mut M0 e) e xs vs.toList) :
    Inv I W0 M0 (w.alloc (.cells vs ty (0, 0))) (hp.set nid (some xs)) (upd e nid w.heap.size) ∧ Ext w (Mut M0 e) e (w.alloc (.cells vs ty (0, 0))) (Mut M0 (upd e nid w.heap.size)) (upd e nid w.heap.size) := by
  have he : e nid = none := h.non nid (by simp [hn])
  have hlt : nid < hp.length := by rcases Nat.lt_or_ge nid hp.length with h' | h'; exact h'; simp [List.getElem?_eq_none h'] at hn
  have hsz : (w.alloc (.cells vs ty (0, 0))).heap.size = w.heap.size + 1 := by simp
  have hx : Ext w (Mut M0 e) e (w.alloc (.cells vs ty (0, 0))) (Mut M0 (upd e nid w.heap.size)) (upd e nid w.heap.size) := by
    refine ⟨by omega, fun b hb _ => heap_alloc_old w _ b hb, fun id b hb => ?_, fun b hb => ?_⟩
    · unfold upd; split
      · rename_i hid; rw [hid, he] at hb; cases hb
      · exact hb
    · rcases hb with hb | ⟨id, hb⟩
      · exact .inl (.inl hb)
      · unfold upd at hb; split at hb
        · cases hb; exact .inr (Nat.le_refl _)
        · exact .inl (.inr ⟨id, hb⟩)
  refine ⟨⟨fun id ys hid => ?_, fun id hid => ?_, fun id id' b h1 h2 => ?_, fun id b hb => ?_, h.old, h.bel.trans (((Below.refl _ _).alloc (Nat.le_refl _) _).mono h.bel.size)⟩, hx⟩
  · rw [List.getElem?_set] at hid
    by_cases hc : nid = id
    · subst hc
      simp only [if_true, hlt] at hid
      obtain rfl := Option.some.inj (Option.some.inj hid)
      exact ⟨w.heap.size, vs, ty, by simp [upd], heap_alloc_new w _, hr.ext hx⟩
    · rw [if_neg hc] at hid
      obtain ⟨b, vs', ty', h1, h2, h3⟩ := h.box id ys hid
      exact ⟨b, vs', ty', hx.emb _ _ h1, by rw [heap_alloc_old w _ b (h.lt (.inr ⟨id, h1⟩))]; exact h2, h3.ext hx⟩
  · unfold upd
    by_cases hc : id = nid
    · subst hc; exact absurd (by simp [hlt]) (hid xs)
    · rw [if_neg hc]
      refine h.non id fun ys hy => hid ys ?_
      rw [List.getElem?_set_ne (Ne.symm hc)]; exact hy
  · unfold upd at h1 h2
    have fresh : ∀ i, e i = some w.heap.size → False := fun i hi => absurd (h.lt (.inr ⟨i, hi⟩)) (Nat.lt_irrefl _)
    split at h1 <;> split at h2
    · simp_all
    · cases h1; exact (fresh _ h2).elim
    · cases h2; exact (fresh _ h1).elim
    · exact h.inj id id' b h1 h2
  · unfold upd at hb; split at hb
    · cases hb; exact h.bel.size
    · exact h.new id b hb
theorem Inv.store (h : Inv I W0 M0 w hp e) {id : Nat} {xs xs' : List (AV T)} (hid : hp[id]? = some (some xs)) {b : Nat} {vs vs' : Array Value} {ty : TypeId} (he : e id = some b) (hb : w.heap[b]? = some (.cells vs ty (0, 0)))
    (hr : RepL I w (Mut M0 e) e xs' vs'.toList) : Inv I W0 M0 (w.setRow b vs') (hp.set id (some xs')) e ∧ Ext w (Mut M0 e) e (w.setRow b vs') (Mut M0 e) e := by
  have hlt : id < hp.length := by rcases Nat.lt_or_ge id hp.length with h' | h'; exact h'; simp [List.getElem?_eq_none h'] at hid
  have hm : Mut M0 e b := .inr ⟨id, he⟩
  have hx : Ext w (Mut M0 e) e (w.setRow b vs') (Mut M0 e) e :=
    ⟨by simp, fun c hc hn => setRow_other w b c vs' (fun heq => hn (heq ▸ hm)), fun _ _ h => h, fun _ h => .inl h⟩
  refine ⟨⟨fun id' ys hid' => ?_, fun id' hid' => ?_, h.inj, h.new, h.old, ?_⟩, hx⟩
  · rw [List.getElem?_set] at hid'
    by_cases hc : id = id'
    · subst hc
      simp only [if_true, hlt] at hid'
      obtain rfl := Option.some.inj (Option.some.inj hid')
      exact ⟨b, vs', ty, he, setRow_heap w b vs vs' ty (0, 0) hb, hr.ext hx⟩
    · rw [if_neg hc] at hid'
      obtain ⟨b', vs'', ty', h1, h2, h3⟩ := h.box id' ys hid'
      exact ⟨b', vs'', ty', h1, by rw [setRow_other w b b' vs' (fun heq => hc (h.inj id id' b he (heq ▸ h1)))]; exact h2, h3.ext hx⟩
  · refine h.non id' fun ys hy => ?_
    by_cases hc : id = id'
    · subst hc; exact hid' xs' (by simp [hlt])
    · exact hid' ys (by rw [List.getElem?_set_ne hc]; exact hy)
  · refine h.bel.trans ⟨by simp, by simp, by simp, by simp, fun k hk => setRow_other w b k vs' (fun heq => ?_)⟩
    have := h.new id b he
    omega

/-- The leaf of a tree that its conditions lead to. -/
def Tr.Has {β : Type} : Tr β → β → Prop
  | .fail, _ => False
  | .ret v, u => v = u
  | .br b x y, u => (b = true → x.Has u) ∧ (b = false → y.Has u)
theorem Tr.run_has {α β : Type} {K : β → Option α} {r : α} : ∀ {t : Tr β}, t.run K = some r → ∃ v, t.Has v ∧ K v = some r
  | .fail, h => by cases h
  | .ret v, h => ⟨v, rfl, h⟩
  | .br b x y, h => by
    cases b with
    | true => obtain ⟨v, hv, hk⟩ := Tr.run_has (t := x) h; exact ⟨v, ⟨fun _ => hv, (fun h => by cases h)⟩, hk⟩
    | false => obtain ⟨v, hv, hk⟩ := Tr.run_has (t := y) h; exact ⟨v, ⟨(fun h => by cases h), fun _ => hv⟩, hk⟩
/-- **A contract**: called with values that are what 'args' says, the function returns a value that is what 'v' says; of the memory that was there nothing has turned. -/
def CallOk (I : Interp T) (P : Program) (f : FuncId) (args : List (AV T)) (v : AV T) : Prop :=
  ∀ (w : World) (M : Nat → Prop) (vs : Array Value), (∀ b, M b → b < w.heap.size) → RepL I w M (fun _ => none) args vs.toList →
    Calls P f vs w fun e w' => ∃ u, e = .returned u ∧ Below w.heap.size w w' ∧ Rep I w' M (fun _ => none) v u
def Enterable (P : Program) (f : FuncId) : Prop := ∃ fn, P.funcs[f]? = some fn ∧ fn.body.isNone = false ∧ (fn.name == "runtime.NumGoroutine") = false
def SpecOk (I : Interp T) (P : Program) (spec : FuncId → List (AV T) → Tr (AV T)) : Prop := ∀ f args v, (spec f args).Has v → Enterable P f ∧ CallOk I P f args v

/-- What an operation comes to. -/
inductive Out (I : Interp T) (P : Program) (spec : FuncId → List (AV T) → Tr (AV T)) (allowed : Nat → Bool) (nid : Nat) (o : Oper) (env : List (AV T)) : Hp T → AV T → Hp T → Prop
  | pure (hp v) : classOf o = 0 → evPure I P (evOpd env) o = some (true, v) → Out I P spec allowed nid o env hp v hp
  | pick (hp c x y b) : o.op = .pick c x y → evOpd env c = .bool b → Out I P spec allowed nid o env hp (bif b then evOpd env x else evOpd env y) hp
  | loadR (hp t a id off xs v) : o.op = .load t a → evOpd env a = .ref id off → allowed id = true → hp[id]? = some (some xs) → partAV P t xs off = some v → Out I P spec allowed nid o env hp v hp
  | loadE (hp t a xs off v) : o.op = .load t a → evOpd env a = .elt xs off → partAV P t xs off = some v → Out I P spec allowed nid o env hp v hp
  | store (hp t a x id off n xs) : o.op = .store t a x → evOpd env a = .ref id off → sizeT P t = some n → allowed id = true → hp[id]? = some (some xs) → (evOpd env x).cells.length = n → off + n ≤ xs.length → (evOpd env x).cells.all AV.one = true →
      Out I P spec allowed nid o env hp (.tup []) (hp.set id (some (setFrom xs off (evOpd env x).cells)))
  | alloc (hp t z) : o.op = .alloc t → zeroAV P t = some z → z ≠ .any → hp[nid]? = some none → Out I P spec allowed nid o env hp (.ref nid 0) (hp.set nid (some z.cells))
  | box (hp t x) : o.op = .box t x → evOpd env x ≠ .any → hp[nid]? = some none → Out I P spec allowed nid o env hp (.ref nid 0) (hp.set nid (some (evOpd env x).cells))
  | buildSlice (hp t len parts elem sz z xs) : o.op = .buildSlice t len parts → P.underlying t = some (.slice elem) → sizeT P elem = some sz → zeroAV P elem = some z → z ≠ .any → z.cells.length = sz → 0 < sz → len * sz ≤ 10000 → AV.undL 0 z.cells = true →
      fillS (List.replicate len z.cells) (parts.toList.map fun p => (p.1, evOpd env p.2)) = some xs → Out I P spec allowed nid o env hp (.sli sz xs) hp
  | call (hp c f n v) : o.op = .call c → c.callee = .value f → evOpd env f = .fn (.func n) [] [] → AV.undL 0 (c.args.toList.map (evOpd env)) = true → (spec n (c.args.toList.map (evOpd env))).Has v → Out I P spec allowed nid o env hp v hp
end
end Go.Proofs.Ytamfgbenceoleaa.Ev
