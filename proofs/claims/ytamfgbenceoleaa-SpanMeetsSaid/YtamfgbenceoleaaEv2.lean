import Derived.Test.YtamfgbenceoleaaEv1
namespace Go.Proofs.Ytamfgbenceoleaa.Ev
set_option linter.unusedVariables false
set_option linter.unusedSimpArgs false
set_option linter.unusedSectionVars false
set_option linter.unnecessarySimpa false
open Go.RowKit
section
variable {T : Type} (I : Interp T) (P : Program)

/-- A plain value of the program's text. -/
def avOf0 : Value → AV T
  | .bool b => .bool b
  | .int k n => .int k n
  | .string s => .str s
  | .pointer none => .nilp
  | .slice none 0 0 => .sli 0 []
  | _ => .any
def avOf : Nat → Value → AV T
  | 0, v => avOf0 v
  | n + 1, v =>
    match v with
    | .agg cs => .agg (cs.toList.map (avOf n))
    | .tuple cs => .tup (cs.toList.map (avOf n))
    | .func f a b => .fn f (a.toList.map (avOf n)) (b.toList.map (avOf n))
    | v => avOf0 v
def evOpd (env : List (AV T)) : Operand → AV T
  | .tmp t => env.getD t (.tup [])
  | .const v => avOf 2 v
  | .global _ => .any
  | .func f => .fn (.func f) [] []
def AV.cells : AV T → List (AV T)
  | .agg xs => xs
  | x => [x]
/-- One cell may hold it. -/
def AV.one : AV T → Bool
  | .agg _ | .tup _ | .any => false
  | _ => true
def sizeT (t : TypeId) : Option Nat := (P.info? t).map (·.size)
def isAggT (t : TypeId) : Option Bool := (P.underlying t).map fun | .struct _ | .array _ _ => true | _ => false
/-- What a variable of type t, from cell 'off' on, holds. -/
def partAV (t : TypeId) (xs : List (AV T)) (off : Nat) : Option (AV T) :=
  match isAggT P t, sizeT P t with
  | some true, some n => bif Nat.ble (off + n) xs.length then some (.agg ((xs.drop off).take n)) else none
  | some false, _ => xs[off]?
  | _, _ => none
def setFrom : List (AV T) → Nat → List (AV T) → List (AV T)
  | cs, _, [] => cs
  | cs, off, x :: r => setFrom (cs.set off x) (off + 1) r
def fillAV (place : Nat → Option (Nat × Nat)) (cells : List (AV T)) : List (Nat × AV T) → Option (List (AV T))
  | [] => some cells
  | (i, v) :: rest =>
    match place i with
    | none => none
    | some (off, size) =>
      match v with
      | .any => none
      | v => bif Nat.beq v.cells.length size && Nat.ble (off + v.cells.length) cells.length then fillAV place (setFrom cells off v.cells) rest else none
def zeroAV (t : TypeId) : Option (AV T) := ((P.info? t).bind (·.zero)).map (avOf 2)
def places (fs : List Field) : Option (List (Nat × Nat)) := fs.mapM fun f => (P.info? f.type).map fun i => (f.offset, i.size)
def buildAV (t : TypeId) (parts : List (Nat × AV T)) : Option (AV T) :=
  match P.underlying t, zeroAV P t with
  | some (.struct fields), some (.agg z) =>
    match places P fields.toList with
    | some ps => (fillAV (fun i => ps[i]?) z parts).map .agg
    | none => none
  | some (.array _ elem), some (.agg z) =>
    match sizeT P elem with
    | some size => (fillAV (fun i => some (i * size, size)) z parts).map .agg
    | none => none
  | _, _ => none
def bitI (op : BinOp) (k : IntKind) (x y : Int) : Int :=
  let a := BitVec.ofInt k.bits x
  let b := BitVec.ofInt k.bits y
  match op with
  | .and => k.wrap (a &&& b).toNat
  | .or => k.wrap (a ||| b).toNat
  | .xor => k.wrap (a ^^^ b).toNat
  | _ => k.wrap (a &&& ~~~b).toNat
/-- Kinds alike. -/
def sameK : IntKind → IntKind → Bool
  | .i8, .i8 | .i16, .i16 | .i32, .i32 | .i64, .i64 | .u8, .u8 | .u16, .u16 | .u32, .u32 | .u64, .u64 => true
  | _, _ => false
def evInt (op : BinOp) (k : IntKind) (a b : Int) : Option (Bool × AV T) :=
  match op with
  | .add => some (true, .int k (k.wrap (a + b)))
  | .sub => some (true, .int k (k.wrap (a - b)))
  | .mul => some (true, .int k (k.wrap (a * b)))
  | .quo => some (!(decide (b = 0)), .int k (k.wrap (a.tdiv b)))
  | .rem => some (!(decide (b = 0)), .int k (a.tmod b))
  | .and => some (true, .int k (bitI .and k a b))
  | .or => some (true, .int k (bitI .or k a b))
  | .xor => some (true, .int k (bitI .xor k a b))
  | .andNot => some (true, .int k (bitI .andNot k a b))
  | .eql => some (true, .bool (a == b))
  | .neq => some (true, .bool (a != b))
  | .lss => some (true, .bool (decide (a < b)))
  | .leq => some (true, .bool (decide (a ≤ b)))
  | .gtr => some (true, .bool (decide (a > b)))
  | .geq => some (true, .bool (decide (a ≥ b)))
  | _ => none
def evShift (op : BinOp) (k : IntKind) (a b : Int) : Option (Bool × AV T) :=
  match op with
  | .shl => some (!(decide (b < 0)), .int k (k.wrap (a * 2 ^ (min b.toNat k.bits))))
  | .shr => some (!(decide (b < 0)), .int k (a.fdiv (2 ^ (min b.toNat k.bits))))
  | _ => none
/-- Are two values of a type alike? (The type's own tree, as the model walks it.) -/
def eqFieldsAV (eq : TypeId → AV T → AV T → Option Bool) (xs ys : List (AV T)) : List Field → Option Bool
  | [] => some true
  | f :: r =>
    bif f.name == "_" then none else
    match partAV P f.type xs f.offset, partAV P f.type ys f.offset with
    | some u, some v => match eq f.type u v, eqFieldsAV eq xs ys r with
      | some a, some b => some (a && b)
      | _, _ => none
    | _, _ => none
def evEq : Nat → TypeId → AV T → AV T → Option Bool
  | 0, _, _, _ => none
  | d + 1, t, x, y =>
    match P.underlying t, x, y with
    | some .bool, .bool a, .bool b => some (a == b)
    | some (.int _), .int k a, .int k' b => bif sameK k k' then some (a == b) else none
    | some .string, .str a, .str b => some (a == b)
    | some (.struct fields), .agg xs, .agg ys => bif P.stoodInHeld t then none else eqFieldsAV P (evEq d) xs ys fields.toList
    | _, _, _ => none
def mnI (x y : Int) : Int := if y < x then y else x
def mxI (x y : Int) : Int := if y > x then y else x
def evMin (k : IntKind) (x : Int) : List (AV T) → Option (AV T)
  | [] => some (.int k x)
  | .int _ y :: r => evMin k (mnI x y) r
  | _ => none
def evMax (k : IntKind) (x : Int) : List (AV T) → Option (AV T)
  | [] => some (.int k x)
  | .int _ y :: r => evMax k (mxI x y) r
  | _ => none
def noNames (fields : Array Field) : Bool := fields.all fun f => f.name != "_"
/-- Operations that read no variable and write none: under what condition they go through, and what they give. -/
def evPure (ρ : Operand → AV T) (o : Oper) : Option (Bool × AV T) :=
  match o.op with
  | .move x => some (true, ρ x)
  | .assign x => some (true, ρ x)
  | .binOp op t x y _ =>
    match ρ x, ρ y with
    | .int k a, .int k' b =>
      match op with
      | .shl => evShift .shl k a b
      | .shr => evShift .shr k a b
      | op => bif sameK k k' then evInt op k a b else none
    | .agg xs, .agg ys =>
      bif P.eqGuardType P.depth t then none else
      match op with
      | .eql => (evEq P 8 t (.agg xs) (.agg ys)).map fun b => (true, .bool b)
      | .neq => (evEq P 8 t (.agg xs) (.agg ys)).map fun b => (true, .bool !b)
      | _ => none
    | .bool a, .bool b =>
      match op, P.underlying t with
      | .eql, some .bool => some (true, .bool (a == b))
      | .neq, some .bool => some (true, .bool !(a == b))
      | _, _ => none
    | _, _ => none
  | .unOp op _ x =>
    match op, ρ x with
    | .neg, .int k n => some (true, .int k (k.wrap (0 - n)))
    | .not, .bool b => some (true, .bool !b)
    | _, _ => none
  | .convert src dst x =>
    match P.underlying src, P.underlying dst, ρ x with
    | some _, some (.int k), .int _ n => some (true, .int k (k.wrap n))
    | _, _, _ => none
  | .fieldAddr s x f =>
    match P.underlying s with
    | some (.struct fields) =>
      match fields[f]? with
      | some f =>
        match sizeT P f.type, ρ x with
        | some (_ + 1), .ref id off => some (true, .ref id (off + f.offset))
        | some (_ + 1), .elt xs off => some (true, .elt xs (off + f.offset))
        | _, _ => none
      | none => none
    | _ => none
  | .field t x f =>
    match P.underlying t with
    | some (.struct fields) =>
      match fields[f]? with
      | some f =>
        match ρ x with
        | .agg xs => (partAV P f.type xs f.offset).map fun v => (true, v)
        | _ => none
      | none => none
    | _ => none
  | .index t x i =>
    match P.underlying t, ρ x, ρ i with
    | some (.array len elem), .agg xs, .int _ i =>
      match sizeT P elem with
      | some sz => match partAV P elem xs (i.toNat * sz) with
        | some v => some (decide (0 ≤ i) && decide (i < len), v)
        | none => none
      | none => none
    | _, _, _ => none
  | .indexAddr t x i =>
    match P.underlying t, ρ x, ρ i with
    | some (.array len elem), .ref id off, .int _ i =>
      match sizeT P elem with
      | some sz => some (decide (0 ≤ i) && decide (i < len), .ref id (off + i.toNat * sz))
      | none => none
    | some (.slice elem), .slc _ s, .int _ i =>
      match sizeT P elem with
      | some sz => bif Nat.beq sz (I.sz s) then some (decide (0 ≤ i) && decide (i < I.len s), .elt (I.cells s i.toNat) 0) else none
      | none => none
    | some (.slice elem), .sli z xs, .int _ i =>
      match sizeT P elem with
      | some sz => bif Nat.beq sz z then some (decide (0 ≤ i) && decide (i < xs.length), .elt (xs.getD i.toNat []) 0) else none
      | none => none
    | _, _, _ => none
  | .extract x k =>
    match ρ x with
    | .tup xs => (xs[k]?).map fun v => (true, v)
    | _ => none
  | .build t parts => (buildAV P t (parts.toList.map fun p => (p.1, ρ p.2))).map fun v => (true, v)
  | .nilCheck x =>
    match ρ x with
    | .ref id off => some (true, .ref id off)
    | .elt xs off => some (true, .elt xs off)
    | _ => none
  | .call c =>
    match c.callee with
    | .builtin .len =>
      match c.args.toList.map ρ, (c.argTypes[0]?).bind P.underlying with
      | [.slc _ s], some (.slice _) => some (true, .int .i64 (I.len s))
      | [.sli _ xs], some (.slice _) => some (true, .int .i64 xs.length)
      | [.str s], some .string => some (true, .int .i64 s.size)
      | _, _ => none
    | .builtin .min =>
      match c.args.toList.map ρ with
      | .int k x :: r => (evMin k x r).map fun v => (true, v)
      | _ => none
    | .builtin .max =>
      match c.args.toList.map ρ with
      | .int k x :: r => (evMax k x r).map fun v => (true, v)
      | _ => none
    | _ => none
  | _ => none

/-- Answers of the functions that are called: a tree of conditions. -/
inductive Tr (β : Type) where
  | fail
  | ret (v : β)
  | br (b : Bool) (x y : Tr β)
def Tr.run {α β : Type} : Tr β → (β → Option α) → Option α
  | .fail, _ => none
  | .ret v, K => K v
  | .br b x y, K => bif b then x.run K else y.run K

abbrev Hp (T : Type) := List (Option (List (AV T)))
def argsClosed : List (AV T) → Bool := fun xs => AV.undL 0 xs
variable {α : Type}
/-- The elements of a literal of a slice. -/
def fillS (cells : List (List (AV T))) : List (Nat × AV T) → Option (List (List (AV T)))
  | [] => some cells
  | (i, v) :: rest =>
    match v, cells[i]? with
    | .any, _ => none
    | _, none => none
    | v, some old => bif Nat.beq v.cells.length old.length && AV.undL 0 v.cells then fillS (cells.set i v.cells) rest else none
/-- An element of a written-out array: one way for each number. -/
def evIdx (elem : TypeId) (xs : List (AV T)) (sz : Nat) (n : Int) (K : AV T → Option α) : Nat → Nat → Option α
  | 0, _ => none
  | c + 1, j => bif decide (n = (j : Int)) then (match partAV P elem xs (j * sz) with | some v => K v | none => none) else evIdx elem xs sz n K c (j + 1)
/-- A list, written out before it goes on (the kernel would carry it along unopened). -/
def spine {β γ : Type} : List β → (List β → γ) → γ
  | [], k => k []
  | x :: r, k => spine r fun r' => k (x :: r')
def spineO {β γ : Type} : List (Option (List β)) → (List (Option (List β)) → γ) → γ
  | [], k => k []
  | none :: r, k => spineO r fun r' => k (none :: r')
  | some x :: r, k => spine x fun x' => spineO r fun r' => k (some x' :: r')
def forceV {γ : Type} : AV T → (AV T → γ) → γ
  | .any, k => k .any
  | .bool b, k => k (.bool b)
  | .int a n, k => k (.int a n)
  | .str s, k => k (.str s)
  | .nilp, k => k .nilp
  | .ref id off, k => k (.ref id off)
  | .elt xs off, k => spine xs fun xs' => k (.elt xs' off)
  | .slc f t, k => k (.slc f t)
  | .sli z xs, k => spine xs fun xs' => k (.sli z xs')
  | .agg xs, k => spine xs fun xs' => k (.agg xs')
  | .tup xs, k => spine xs fun xs' => k (.tup xs')
  | .fn f a b, k => k (.fn f a b)
theorem spine_eq {β γ : Type} : ∀ (l : List β) (k : List β → γ), spine l k = k l
  | [], _ => rfl
  | x :: r, k => by rw [spine, spine_eq r]
theorem spineO_eq {β γ : Type} : ∀ (l : List (Option (List β))) (k : List (Option (List β)) → γ), spineO l k = k l
  | [], _ => rfl
  | none :: r, k => by rw [spineO, spineO_eq r]
  | some x :: r, k => by rw [spineO, spine_eq, spineO_eq r]
theorem forceV_eq {γ : Type} (v : AV T) (k : AV T → γ) : forceV v k = k v := by cases v <;> simp only [forceV, spine_eq]
/-- One operation. -/
def evOp (spec : FuncId → List (AV T) → Tr (AV T)) (allowed : Nat → Bool) (nid : Nat) (o : Oper) (env : List (AV T)) (hp : Hp T) (K : AV T → Hp T → Option α) : Option α :=
  match o.op with
  | .pick c x y =>
    match evOpd env c with
    | .bool b => bif b then K (evOpd env x) hp else K (evOpd env y) hp
    | _ => none
  | .load t a =>
    match evOpd env a with
    | .ref id off =>
      bif allowed id then
        match hp[id]? with
        | some (some xs) => match partAV P t xs off with
          | some v => K v hp
          | none => none
        | _ => none
      else none
    | .elt xs off => match partAV P t xs off with
      | some v => K v hp
      | none => none
    | _ => none
  | .store t a x =>
    match evOpd env a, sizeT P t with
    | .ref id off, some n =>
      bif allowed id then
        match hp[id]? with
        | some (some xs) =>
          let cs := (evOpd env x).cells
          bif Nat.beq cs.length n && Nat.ble (off + n) xs.length && cs.all AV.one then K (.tup []) (hp.set id (some (setFrom xs off cs))) else none
        | _ => none
      else none
    | _, _ => none
  | .alloc t =>
    match zeroAV P t with
    | none => none
    | some .any => none
    | some z => match hp[nid]? with
      | some none => K (.ref nid 0) (hp.set nid (some z.cells))
      | _ => none
  | .box _ x =>
    match evOpd env x with
    | .any => none
    | v => match hp[nid]? with
      | some none => K (.ref nid 0) (hp.set nid (some v.cells))
      | _ => none
  | .buildSlice t len parts =>
    match P.underlying t with
    | some (.slice elem) =>
      match sizeT P elem, zeroAV P elem with
      | _, some .any => none
      | some sz, some z =>
        bif Nat.beq z.cells.length sz && Nat.blt 0 sz && Nat.ble (len * sz) 10000 && AV.undL 0 z.cells then
          match fillS (List.replicate len z.cells) (parts.toList.map fun p => (p.1, evOpd env p.2)) with
          | some xs => K (.sli sz xs) hp
          | none => none
        else none
      | _, _ => none
    | _ => none
  | .call c =>
    match c.callee with
    | .value f =>
      match evOpd env f with
      | .fn (.func n) [] [] =>
        let args := c.args.toList.map (evOpd env)
        bif argsClosed args then (spec n args).run fun v => K v hp else none
      | _ => none
    | _ => match evPure I P (evOpd env) o with
      | some (g, v) => bif g then K v hp else none
      | none => none
  | .index t x i =>
    match P.underlying t, evOpd env x, evOpd env i with
    | some (.array len elem), .agg xs, .int _ n => match sizeT P elem with
      | some sz => evIdx P elem xs sz n (fun v => K v hp) len 0
      | none => none
    | _, _, _ => none
  | _ => match evPure I P (evOpd env) o with
    | some (g, v) => bif g then K v hp else none
    | none => none
def putAV (env : List (AV T)) : Option Tmp → AV T → List (AV T)
  | none, _ => env
  | some d, v => env.set d v
/-- What a guard looks at. -/
def guardOf (ops : Array Oper) (env : List (AV T)) (o : Oper) : Option Bool :=
  match o.guard with
  | none => some true
  | some (j, want) =>
    match (ops[j]?).bind (·.dst) with
    | none => some false
    | some t => match env[t]? with
      | some (.bool b) => some (bif want then b else !b)
      | some (.tup []) => some false
      | some (.int _ _) => some false
      | none => some false
      | _ => none
/-- Where a guard hangs on a letter: both ways, the letter known from there on. -/
def withGuard (ops : Array Oper) (env : List (AV T)) (o : Oper) (run skip : List (AV T) → Option α) : Option α :=
  match o.guard with
  | none => run env
  | some (j, want) =>
    match (ops[j]?).bind (·.dst) with
    | none => skip env
    | some t => match env[t]? with
      | some (.bool b) => bif b then (bif want then run (env.set t (.bool true)) else skip (env.set t (.bool true))) else (bif want then skip (env.set t (.bool false)) else run (env.set t (.bool false)))
      | some (.tup []) => skip env
      | some (.int _ _) => skip env
      | none => skip env
      | _ => none
/-- Operations in order: those of a list of numbers. -/
def evOps (spec : FuncId → List (AV T) → Tr (AV T)) (ops : Array Oper) (allowed : Nat → Nat → Bool) (base : Nat) : List Nat → List (AV T) → Hp T → (List (AV T) → Hp T → Option α) → Option α
  | [], env, hp, K => K env hp
  | i :: rest, env, hp, K =>
    match ops[i]? with
    | none => none
    | some o => withGuard ops env o (fun env => evOp I P spec (allowed i) (base + i) o env hp fun v hp' => forceV v fun v => spine (putAV env o.dst v) fun env' => spineO hp' fun hp' => evOps spec ops allowed base rest env' hp' K)
        (fun env => spine (putAV env o.dst (.tup [])) fun env' => evOps spec ops allowed base rest env' hp K)
inductive X where
  | normal
  | exit (id : Nat)
  | ret
/-- Does a region make variables? -/
def makes (ops : Array Oper) : Bool := ops.any fun o => match o.op with | .alloc _ | .box .. => true | _ => false
/-- The classes of operations: 0: neither reads nor writes variables; 1: reads; 2: makes; 3: writes. -/
def classOf (o : Oper) : Nat :=
  match o.op with
  | .load .. => 1
  | .alloc _ | .box .. => 2
  | .store .. => 3
  | _ => 0
/-- Of a store: the number of the operation that made the variable, if it stands in this region. -/
def storeAt (ops : Array Oper) (o : Oper) : Option Nat :=
  match o.op with
  | .store _ (.tmp t) _ => (List.range ops.size).find? fun k => match ops[k]? with
      | some p => Nat.beq (classOf p) 2 && (match p.dst with | some d => Nat.beq d t | none => false)
      | none => false
  | _ => none
def waitsFor (o : Oper) (k : Nat) : Bool := o.after.any fun e => Region.binds .any e && Nat.beq e.on k
/-- A store and another operation. -/
def okStore (ops : Array Oper) (o : Oper) (j : Nat) (oj : Oper) : Bool :=
  bif Nat.beq (classOf oj) 0 then true else
  match storeAt ops o with
  | none => false
  | some k =>
    bif Nat.beq (classOf oj) 1 then !waitsFor oj k
    else bif Nat.beq (classOf oj) 2 then !Nat.beq k j
    else match storeAt ops oj with
      | some k' => !Nat.beq k k'
      | none => false
/-- May two operations that wait for none of both change places? -/
def okPair (ops : Array Oper) (i : Nat) (oi : Oper) (j : Nat) (oj : Oper) : Bool :=
  bif Nat.beq (classOf oi) 3 then okStore ops oi j oj else bif Nat.beq (classOf oj) 3 then okStore ops oj i oi else true
def freeH (ops : Array Oper) : Bool :=
  (List.range ops.size).all fun i => match ops[i]? with
    | none => false
    | some oi => (List.range ops.size).all fun j => Nat.ble j i || match ops[j]? with
      | some oj => oj.after.any (fun e => Region.binds .any e && e.on == i) || okPair ops i oi j oj
      | none => true
/-- Where variables of the region itself may be read: of those that come ahead; and where a store goes. -/
def allowedIn (ops : Array Oper) (base i id : Nat) : Bool :=
  match ops[i]? with
  | none => false
  | some o =>
    bif Nat.beq (classOf o) 3 then (match storeAt ops o with | some k => Nat.beq id (base + k) | none => true)
    else Nat.blt id base || o.after.any (fun e => Region.binds .any e && Nat.beq (base + e.on) id)
def goodRegion (ops : Array Oper) : Bool := Region.lexB .any ops && freeH ops
end
end Go.Proofs.Ytamfgbenceoleaa.Ev
