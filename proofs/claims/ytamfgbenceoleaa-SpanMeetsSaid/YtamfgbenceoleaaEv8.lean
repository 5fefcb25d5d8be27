import Derived.Test.YtamfgbenceoleaaEv7
namespace Go.Proofs.Ytamfgbenceoleaa.Ev
set_option linter.unusedVariables false
set_option linter.unusedSimpArgs false
set_option linter.unusedSectionVars false
set_option linter.unnecessarySimpa false
open Go.RowKit
section
variable {T : Type} {I : Interp T} {P : Program} {w : World} {M : Nat → Prop} {e : Nat → Option Nat}
variable {env : List (AV T)} {a : Act} {o : Oper} {x : AV T}
theorem pure_unOp (hE : RepL I w M e env a.tmps.toList) (op : UnOp) (t : TypeId) (X : Operand) (ho : o.op = .unOp op t X) (h : evPure I P (evOpd env) o = some (true, x)) : Goes I P w M e (execOp a.eval o) x := by
  have hX := opd_rep hE X
  unfold evPure at h
  simp only [ho] at h
  unfold execOp
  simp only [ho]
  refine goes_v ?_
  split at h
  · rename_i k n ex
    rw [ex] at hX
    have eX := hX.int_inv
    obtain ⟨-, rfl⟩ := pair_true h
    exact ⟨_, by rw [eX]; simp only [Op.unary, Op.intArith]; exact run_pure' _, .int _ _⟩
  · rename_i b ex
    rw [ex] at hX
    have eX := hX.bool_inv
    obtain ⟨-, rfl⟩ := pair_true h
    exact ⟨_, by rw [eX]; simp only [Op.unary]; exact run_pure' _, .bool _⟩
  · cases h
theorem pure_convert (hE : RepL I w M e env a.tmps.toList) (s t : TypeId) (X : Operand) (ho : o.op = .convert s t X) (h : evPure I P (evOpd env) o = some (true, x)) : Goes I P w M e (execOp a.eval o) x := by
  have hX := opd_rep hE X
  unfold evPure at h
  simp only [ho] at h
  unfold execOp
  simp only [ho]
  refine goes_v ?_
  split at h
  · rename_i d k k' n h1 h2 ex
    rw [ex] at hX
    have eX := hX.int_inv
    obtain ⟨-, rfl⟩ := pair_true h
    refine ⟨.int k (k.wrap n), ?_, .int _ _⟩
    rw [eX]
    unfold convert
    simp only [Sem.run_bind, run_underlying h1, run_underlying h2, Result.andThen_ok]
    cases d <;> simp [Conv.intToInt]
  · cases h
theorem pure_extract (hE : RepL I w M e env a.tmps.toList) (X : Operand) (k : Nat) (ho : o.op = .extract X k) (h : evPure I P (evOpd env) o = some (true, x)) : Goes I P w M e (execOp a.eval o) x := by
  have hX := opd_rep hE X
  unfold evPure at h
  simp only [ho] at h
  unfold execOp
  simp only [ho]
  refine goes_v ?_
  split at h
  · rename_i xs ex
    rw [ex] at hX
    obtain ⟨cs, eX, hx⟩ := hX.tup_inv
    obtain ⟨v, hv, hp⟩ := map_some_inv h
    obtain ⟨-, rfl⟩ := pair_true (congrArg some hp)
    obtain ⟨u, hu, hr⟩ := hx.get hv
    have hu' : cs[k]? = some u := by simpa using hu
    exact ⟨u, by rw [eX]; simp [Instr.extract, hu'], hr⟩
  · cases h
theorem pure_build (hE : RepL I w M e env a.tmps.toList) (t : TypeId) (parts : Array (Nat × Operand)) (ho : o.op = .build t parts) (h : evPure I P (evOpd env) o = some (true, x)) : Goes I P w M e (execOp a.eval o) x := by
  unfold evPure at h
  simp only [ho] at h
  unfold execOp
  simp only [ho]
  refine goes_v ?_
  obtain ⟨v, hv, hp⟩ := map_some_inv h
  obtain ⟨-, rfl⟩ := pair_true (congrArg some hp)
  refine buildAV_sound hv (by simp) fun j p q hp hq => ?_
  simp at hp hq
  obtain ⟨i, X, hX, rfl⟩ := hp
  obtain ⟨i', X', hX', rfl⟩ := hq
  rw [hX] at hX'
  obtain ⟨rfl, rfl⟩ := Prod.mk.inj (Option.some.inj hX')
  exact ⟨rfl, opd_rep hE X⟩
theorem pure_nilCheck (hE : RepL I w M e env a.tmps.toList) (X : Operand) (ho : o.op = .nilCheck X) (h : evPure I P (evOpd env) o = some (true, x)) : Goes I P w M e (execOp a.eval o) x := by
  have hX := opd_rep hE X
  unfold evPure at h
  simp only [ho] at h
  unfold execOp
  simp only [ho]
  split at h
  · rename_i id off ex
    rw [ex] at hX
    obtain ⟨b, eX, hb⟩ := hX.ref_inv
    obtain ⟨-, rfl⟩ := pair_true h
    exact ⟨_, by rw [eX]; exact run_pure' _, .ref _ _ _ hb⟩
  · rename_i xs off ex
    rw [ex] at hX
    obtain ⟨-, rfl⟩ := pair_true h
    generalize hv : a.eval X = v at hX
    cases hX with
    | elt _ _ b o' vs h1 h2 => exact ⟨_, run_pure' _, .elt _ _ _ _ vs h1 h2⟩
  · cases h
theorem pure_len (hE : RepL I w M e env a.tmps.toList) (c : Call) (hc : c.callee = .builtin .len) (ho : o.op = .call c) (h : evPure I P (evOpd env) o = some (true, x)) : Goes I P w M e (execOp a.eval o) x := by
  have hA := opds_rep hE c.args
  unfold evPure at h
  simp only [ho, hc] at h
  have hex : ∀ t v, c.argTypes[0]? = some t → c.args.map a.eval = #[v] → ∀ u, (Builtin.len_ c.argTypes o.type #[v]).run P w = .ok u w → (execOp a.eval o).run P w = .ok (.value u) w := by
    intro t v ht hv u hu
    simp [execOp, ho, resolve, hc, invoke, builtin, hv, hu]
  have hone : ∀ y, c.args.toList.map (evOpd env) = [y] → ∃ v, c.args.map a.eval = #[v] ∧ Rep I w M e y v := by
    intro y hy
    rw [hy] at hA
    have hl := hA.1
    rcases hvs : c.args.map a.eval with ⟨vs⟩
    rw [hvs] at hA hl
    match vs, hl with
    | [v], _ => exact ⟨v, rfl, hA.2 0 y v rfl rfl⟩
  split at h
  · rename_i full s el hy hu
    obtain ⟨v, hv, hr⟩ := hone _ hy
    obtain ⟨t, ht, hu'⟩ := Option.bind_eq_some_iff.1 hu
    obtain ⟨-, rfl⟩ := pair_true h
    refine ⟨_, hex t v ht hv (.int .i64 (I.len s)) ?_, .int _ _⟩
    cases hr with
    | slcN _ _ h0 => simp [Builtin.len_, ht, run_underlying hu', goInt, h0]
    | slc _ _ b o' cap vs h1 h2 h3 h4 => simp [Builtin.len_, ht, run_underlying hu', goInt]
  · rename_i sz xs el hy hu
    obtain ⟨v, hv, hr⟩ := hone _ hy
    obtain ⟨t, ht, hu'⟩ := Option.bind_eq_some_iff.1 hu
    obtain ⟨-, rfl⟩ := pair_true h
    refine ⟨_, hex t v ht hv (.int .i64 xs.length) ?_, .int _ _⟩
    cases hr with
    | sliN _ => simp [Builtin.len_, ht, run_underlying hu', goInt]
    | sli _ _ b o' vs h1 h2 => simp [Builtin.len_, ht, run_underlying hu', goInt]
  · rename_i s hy hu
    obtain ⟨v, hv, hr⟩ := hone _ hy
    obtain ⟨t, ht, hu'⟩ := Option.bind_eq_some_iff.1 hu
    obtain ⟨-, rfl⟩ := pair_true h
    refine ⟨_, hex t v ht hv (.int .i64 s.size) ?_, .int _ _⟩
    cases hr
    simp [Builtin.len_, ht, run_underlying hu', goInt]
  · cases h
theorem pure_min (hE : RepL I w M e env a.tmps.toList) (c : Call) (hc : c.callee = .builtin .min) (ho : o.op = .call c) (h : evPure I P (evOpd env) o = some (true, x)) : Goes I P w M e (execOp a.eval o) x := by
  have hA := opds_rep hE c.args
  unfold evPure at h
  simp only [ho, hc] at h
  split at h
  · rename_i k y r hy
    obtain ⟨v, hv, hp⟩ := map_some_inv h
    obtain ⟨-, rfl⟩ := pair_true (congrArg some hp)
    rw [hy] at hA
    have hl := hA.1
    rcases hvs : c.args.map a.eval with ⟨vs⟩
    rw [hvs] at hA hl
    match vs, hl with
    | q :: qs, _ =>
      have h0 := (hA.2 0 _ q rfl rfl).int_inv
      subst h0
      obtain ⟨u, hu, hr⟩ := evMin_sound (P := P) r y v hv qs ⟨by have := hA.1; simpa using this, fun j z t hz ht => hA.2 (j + 1) z t (by simpa using hz) (by simpa using ht)⟩
      refine ⟨u, ?_, hr⟩
      simp [execOp, ho, resolve, hc, invoke, builtin, hvs, Builtin.min_, hu]
  · cases h
theorem pure_max (hE : RepL I w M e env a.tmps.toList) (c : Call) (hc : c.callee = .builtin .max) (ho : o.op = .call c) (h : evPure I P (evOpd env) o = some (true, x)) : Goes I P w M e (execOp a.eval o) x := by
  have hA := opds_rep hE c.args
  unfold evPure at h
  simp only [ho, hc] at h
  split at h
  · rename_i k y r hy
    obtain ⟨v, hv, hp⟩ := map_some_inv h
    obtain ⟨-, rfl⟩ := pair_true (congrArg some hp)
    rw [hy] at hA
    have hl := hA.1
    rcases hvs : c.args.map a.eval with ⟨vs⟩
    rw [hvs] at hA hl
    match vs, hl with
    | q :: qs, _ =>
      have h0 := (hA.2 0 _ q rfl rfl).int_inv
      subst h0
      obtain ⟨u, hu, hr⟩ := evMax_sound (P := P) r y v hv qs ⟨by have := hA.1; simpa using this, fun j z t hz ht => hA.2 (j + 1) z t (by simpa using hz) (by simpa using ht)⟩
      refine ⟨u, ?_, hr⟩
      simp [execOp, ho, resolve, hc, invoke, builtin, hvs, Builtin.max_, hu]
  · cases h
/-- **A pure operation goes through, and gives what it says.** -/
theorem pure_sound (hE : RepL I w M e env a.tmps.toList) (h : evPure I P (evOpd env) o = some (true, x)) : Goes I P w M e (execOp a.eval o) x := by
  cases ho : o.op with
  | move X =>
    unfold evPure at h; simp only [ho] at h
    obtain ⟨-, rfl⟩ := pair_true h
    exact ⟨a.eval X, by simp [execOp, ho], opd_rep hE X⟩
  | assign X =>
    unfold evPure at h; simp only [ho] at h
    obtain ⟨-, rfl⟩ := pair_true h
    exact ⟨a.eval X, by simp [execOp, ho], opd_rep hE X⟩
  | binOp op t X Y ty => exact pure_binOp hE op t X Y ty ho h
  | unOp op t X => exact pure_unOp hE op t X ho h
  | convert s t X => exact pure_convert hE s t X ho h
  | fieldAddr t X f => exact pure_fieldAddr hE t X f ho h
  | field t X f => exact pure_field hE t X f ho h
  | index t X Y => exact pure_index hE t X Y ho h
  | indexAddr t X Y => exact pure_indexAddr hE t X Y ho h
  | extract X k => exact pure_extract hE X k ho h
  | build t ps => exact pure_build hE t ps ho h
  | nilCheck X => exact pure_nilCheck hE X ho h
  | call c =>
    cases hc : c.callee with
    | builtin b =>
      cases b with
      | len => exact pure_len hE c hc ho h
      | min => exact pure_min hE c hc ho h
      | max => exact pure_max hE c hc ho h
      | _ => unfold evPure at h; simp only [ho, hc] at h; cases h
    | _ => unfold evPure at h; simp only [ho, hc] at h; cases h
  | _ => unfold evPure at h; simp only [ho] at h; cases h
end
end Go.Proofs.Ytamfgbenceoleaa.Ev
