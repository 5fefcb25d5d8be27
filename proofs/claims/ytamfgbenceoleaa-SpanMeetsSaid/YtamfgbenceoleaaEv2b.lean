import Derived.Test.YtamfgbenceoleaaEv2
/-! A second way to walk a region: an operation under a guard is walked once, and its result stands under the way that leads to it. -/
namespace Go.Proofs.Ytamfgbenceoleaa.Ev
set_option linter.unusedVariables false
set_option linter.unusedSimpArgs false
set_option linter.unusedSectionVars false
set_option linter.unnecessarySimpa false
open Go.RowKit
section
variable {T : Type} (I : Interp T) (P : Program) {α : Type}
/-- A temporary, under the way that leads to it (innermost first). -/
abbrev OV (T : Type) := List (Nat × Bool) × AV T
def eqP : List (Nat × Bool) → List (Nat × Bool) → Bool
  | [], [] => true
  | (a, x) :: r, (b, y) :: s => Nat.beq a b && ((x == y) && eqP r s)
  | _, _ => false
def sufB (p : List (Nat × Bool)) : List (Nat × Bool) → Bool
  | [] => eqP p []
  | q :: r => eqP p (q :: r) || sufB p r
def onB (env : List (OV T)) (t : Nat) (w : Bool) : Bool :=
  match env[t]? with
  | some (_, .bool b) => bif w then b else !b
  | _ => false
def wayB (env : List (OV T)) : List (Nat × Bool) → Bool
  | [] => true
  | (t, w) :: r => match r with
    | [] => onB env t w
    | r => wayB env r && onB env t w
/-- The same, written out. -/
def withWay {γ : Type} (env : List (OV T)) : List (Nat × Bool) → (Bool → γ) → γ
  | [], k => k true
  | [(t, w)], k => match env[t]? with
    | some (_, .bool b) => (match w with | true => k b | false => k !b)
    | _ => k false
  | (t, w) :: q :: r, k => withWay env (q :: r) fun c => match env[t]? with
    | some (_, .bool b) => (match w with | true => k (c && b) | false => k (c && !b))
    | _ => k (c && false)
def conc (env : List (OV T)) : List (AV T) := env.map fun x => bif wayB env x.1 then x.2 else .tup []
def view (g : List (Nat × Bool)) (env : List (OV T)) : List (AV T) := env.map fun x => bif sufB x.1 g then x.2 else .any
def lift (env : List (AV T)) : List (OV T) := env.map fun v => ([], v)
def clean (env : List (OV T)) : List (AV T) := env.map fun x => match x.1 with
  | [] => x.2
  | _ => .any
def okOpd (g : List (Nat × Bool)) (env : List (OV T)) : Operand → Bool
  | .tmp t => match env[t]? with
    | some x => sufB x.1 g
    | none => true
  | _ => true
def okOpds (g : List (Nat × Bool)) (env : List (OV T)) (o : Oper) : Bool := o.op.operands.toList.all (okOpd g env)
def notIn (d : Nat) (p : List (Nat × Bool)) : Bool := p.all fun q => !Nat.beq q.1 d
def freshB (env : List (OV T)) (g : List (Nat × Bool)) : Option Tmp → Bool
  | none => true
  | some d => notIn d g && env.all fun x => notIn d x.1
def putO (env : List (OV T)) : Option Tmp → OV T → List (OV T)
  | none, _ => env
  | some d, v => env.set d v
inductive Way where
  | no
  | go (g : List (Nat × Bool))
  | bad
def wayOf (ops : Array Oper) (env : List (OV T)) (o : Oper) : Way :=
  match o.guard with
  | none => .go []
  | some (j, want) =>
    match (ops[j]?).bind (·.dst) with
    | none => .no
    | some t => match env[t]? with
      | some (p, .bool _) => .go ((t, want) :: p)
      | some (_, .tup []) => .no
      | some (_, .int _ _) => .no
      | none => .no
      | _ => .bad
/-- The only answer of a tree, under what it asks. -/
def Tr.gather {β : Type} (way : Bool) : Tr β → (β → Option α) → Option α
  | .ret v, K => K v
  | .br c x .fail, K => bif c || !way then x.gather way K else none
  | _, _ => none
def pick1 (b : Bool) : AV T → AV T → Option (AV T)
  | .bool x, .bool y => some (.bool (bif b then x else y))
  | .int k x, .int k' y => bif sameK k k' then some (.int k (bif b then x else y)) else none
  | _, _ => none
def pickL (b : Bool) : List (AV T) → List (AV T) → Option (List (AV T))
  | [], [] => some []
  | x :: xs, y :: ys => match pick1 b x y, pickL b xs ys with
    | some z, some zs => some (z :: zs)
    | _, _ => none
  | _, _ => none
def pickV (b : Bool) (x y : AV T) : Option (AV T) :=
  match x, y with
  | .agg xs, .agg ys => (pickL b xs ys).map .agg
  | x, y => pick1 b x y
def accO (env : List (OV T)) (g1 g2 : List (Nat × Bool)) : Operand → Option (AV T)
  | .tmp t => match env[t]? with
    | some x => bif sufB x.1 g1 || sufB x.1 g2 then some x.2 else none
    | none => none
  | x => some (evOpd [] x)
def pickO (g : List (Nat × Bool)) (env : List (OV T)) (c x y : Operand) : Option (AV T) :=
  match c with
  | .tmp t => match env[t]? with
    | some (p, .bool b) =>
      bif sufB p g then
        match accO env ((t, true) :: p) ((t, true) :: g) x, accO env ((t, false) :: p) ((t, false) :: g) y with
        | some vx, some vy => pickV b vx vy
        | _, _ => none
      else none
    | _ => none
  | _ => none
/-- An operation under a guard. -/
def evOpW (spec : FuncId → List (AV T) → Tr (AV T)) (way : Bool) (allowed : Nat → Bool) (nid : Nat) (o : Oper) (env : List (AV T)) (hp : Hp T) (K : AV T → Hp T → Option α) : Option α :=
  match o.op with
  | .pick .. | .store .. | .alloc .. | .box .. => none
  | .load .. | .buildSlice .. => match evOp (α := AV T) I P spec allowed nid o env hp fun v _ => some v with
    | some v => K v hp
    | none => none
  | .call c =>
    match c.callee with
    | .value f =>
      match evOpd env f with
      | .fn (.func n) [] [] =>
        let args := c.args.toList.map (evOpd env)
        bif argsClosed args then (spec n args).gather way fun v => K v hp else none
      | _ => none
    | _ => match evPure I P (evOpd env) o with
      | some (g, v) => bif g || !way then K v hp else none
      | none => none
  | _ => match evPure I P (evOpd env) o with
    | some (g, v) => bif g || !way then K v hp else none
    | none => none
def evOpG (spec : FuncId → List (AV T) → Tr (AV T)) (g : List (Nat × Bool)) (allowed : Nat → Bool) (nid : Nat) (o : Oper) (env : List (OV T)) (hp : Hp T) (K : AV T → Hp T → Option α) : Option α :=
  match o.op with
  | .pick c x y => match pickO g env c x y with
    | some v => K v hp
    | none => none
  | _ => bif okOpds g env o then
      match g with
      | [] => evOp I P spec allowed nid o (view g env) hp K
      | g => withWay env g fun way => evOpW I P spec way allowed nid o (view g env) hp K
    else none
def evOpsO (spec : FuncId → List (AV T) → Tr (AV T)) (ops : Array Oper) (allowed : Nat → Nat → Bool) (base : Nat) : List Nat → List (OV T) → Hp T → (List (AV T) → Hp T → Option α) → Option α
  | [], env, hp, K => K (clean env) hp
  | i :: rest, env, hp, K =>
    match ops[i]? with
    | none => none
    | some o => match wayOf ops env o with
      | .no => bif freshB env [] o.dst then spine (putO env o.dst ([], .tup [])) fun env' => evOpsO spec ops allowed base rest env' hp K else none
      | .go g => bif freshB env g o.dst then evOpG I P spec g (allowed i) (base + i) o env hp fun v hp' => forceV v fun v => spine (putO env o.dst (g, v)) fun env' => spineO hp' fun hp' => evOpsO spec ops allowed base rest env' hp' K else none
      | .bad => none
end
end Go.Proofs.Ytamfgbenceoleaa.Ev
