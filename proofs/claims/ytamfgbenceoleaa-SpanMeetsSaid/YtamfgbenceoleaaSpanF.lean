import Derived.Test.YtamfgbenceoleaaEv2
/-! Sets of values: plain definitions. -/
namespace Go.Proofs.Ytamfgbenceoleaa.Span
set_option linter.unusedVariables false
set_option linter.unusedSimpArgs false
set_option linter.unusedSectionVars false
set_option linter.unnecessarySimpa false
open Go.Proofs.Ytamfgbenceoleaa.Ev
/-- Of 32 bits. -/
def w32 (n : Int) : Int := (n + 2147483648) % 4294967296 - 2147483648
/-- What the operators give, before it is wrapped. -/
def opJ (op x y : Int) : Int := if op = 4 then x + y else if op = 5 then x - y else if op = 6 then x * y else if op = 7 then (if y = 0 then 0 else Int.tdiv x y) else if op = 8 then (if y = 0 then x else Int.tmod x y) else if op = 9 then (if y < x then y else x) else if op = 10 then (if x < y then y else x) else 0
def opG (op a b : Int) : Int := w32 (opJ op (w32 a) (w32 b))
structure Abs where
  lo : Int
  hi : Int
  m : Int
  r : Int
  mask : Int
  deriving DecidableEq
abbrev MinI : Int := -2147483648
abbrev MaxI : Int := 2147483647
/-- Valid sets. -/
def VA (a : Abs) : Prop :=
  -2147483648 ≤ a.lo ∧ a.lo ≤ a.hi ∧ a.hi ≤ 2147483647 ∧ 0 ≤ a.mask ∧ a.mask ≤ 255 ∧ 1 ≤ a.m ∧
  (a.lo = a.hi → a.m = 1 ∧ a.r = 0) ∧ (a.lo ≠ a.hi → a.m ≤ a.hi - a.lo ∧ (a.hi - a.lo) % a.m = 0 ∧ a.r = a.lo % a.m)
instance (a : Abs) : Decidable (VA a) := by unfold VA; exact inferInstance
def validF (a : Abs) : Bool := decide (VA a)
def gcdL (a : Int) (l : List Int) : Int := (l.foldl (fun (g : Nat) (b : Int) => Nat.gcd g b.natAbs) a.natAbs : Nat)
def stepF (a : Abs) : Int := if a.lo = a.hi then 0 else a.m
def topF (lo hi m : Int) : Int := if m > 0 then hi - (hi - lo) % m else hi
def byF (lo hi m mask : Int) : Abs :=
  if lo = topF lo hi m then ⟨lo, lo, 1, 0, mask⟩ else ⟨lo, topF lo hi m, m, lo % m, mask⟩
def likeF (r m lo hi mask : Int) : Abs := byF (lo + (r - lo) % m) hi m mask
def orM (a b : Int) : Int := (a.toNat ||| b.toNat : Nat)
def andM (a b : Int) : Int := (a.toNat &&& b.toNat : Nat)
def subB (a b : Int) : Bool := (a.toNat ||| b.toNat) == b.toNat
def withinF (a : Abs) (v : Int) : Bool := decide (a.lo ≤ v) && (decide (v ≤ a.hi) && decide ((v - a.lo) % a.m = 0))
def hasF (a : Abs) (v mask : Int) : Bool := withinF a v && subB mask a.mask
def absI (a : Int) : Int := a.natAbs
def apartF (a b : Abs) : Int := gcdL (stepF a) [stepF b, absI (a.lo - b.lo)]
def joinF (a b : Abs) : Abs := byF (min a.lo b.lo) (max a.hi b.hi) (apartF a b) (orM a.mask b.mask)
def leqF (a b : Abs) : Bool := decide (joinF a b = b)
def ofF (v mask : Int) : Abs := ⟨v, v, 1, 0, mask⟩
def allF (mask : Int) : Abs := ⟨-2147483648, 2147483647, 1, 0, mask⟩
def valB (a : Int) : Bool := decide (-2147483648 ≤ a) && decide (a ≤ 2147483647)
def andW (a b : Int) : Int := bitI .and .i64 a b
def boundF (mask lo hi m : Int) : Abs := if valB lo && valB hi then byF lo hi m mask else likeF lo (gcdL 4294967296 [m]) (-2147483648) 2147483647 mask
def addF (a b : Abs) (mask : Int) : Abs := boundF mask (a.lo + b.lo) (a.hi + b.hi) (gcdL (stepF a) [stepF b])
def subF (a b : Abs) (mask : Int) : Abs := boundF mask (a.lo - b.hi) (a.hi - b.lo) (gcdL (stepF a) [stepF b])
def mulF (a b : Abs) (mask : Int) : Abs :=
  boundF mask (min (min (min (a.lo * b.lo) (a.lo * b.hi)) (a.hi * b.lo)) (a.hi * b.hi)) (max (max (max (a.lo * b.lo) (a.lo * b.hi)) (a.hi * b.lo)) (a.hi * b.hi))
    (gcdL (absI a.lo * stepF b) [absI b.lo * stepF a, stepF a * stepF b])
def divLo (a b : Abs) : Int := if stepF b = 0 ∧ b.lo ≠ 0 then min (a.lo.tdiv b.lo) (a.hi.tdiv b.lo) else if a.lo < 0 ∨ b.lo < 0 then - max (absI a.lo) (absI a.hi) else 0
def divHi (a b : Abs) : Int := if stepF b = 0 ∧ b.lo ≠ 0 then max (a.lo.tdiv b.lo) (a.hi.tdiv b.lo) else if a.lo < 0 ∨ b.lo < 0 then max (absI a.lo) (absI a.hi) else a.hi
def divF (a b : Abs) (mask : Int) : Abs := if valB (divLo a b) && valB (divHi a b) then byF (divLo a b) (divHi a b) 1 mask else allF mask
def remF (a b : Abs) (mask : Int) : Abs :=
  if stepF b ≠ 0 then byF (min a.lo 0) (max a.hi 0) 1 mask
  else if absI b.lo = 0 ∨ (0 ≤ a.lo ∧ a.hi < absI b.lo) then { a with mask := mask }
  else likeF a.lo (gcdL (stepF a) [absI b.lo]) (max (min a.lo 0) (1 - absI b.lo)) (min (max a.hi 0) (absI b.lo - 1)) mask
def lesserF (a b : Abs) (mask : Int) : Abs := byF (min a.lo b.lo) (min a.hi b.hi) (apartF a b) mask
def greaterF (a b : Abs) (mask : Int) : Abs := byF (max a.lo b.lo) (max a.hi b.hi) (apartF a b) mask
def opA (op : Int) (a b : Abs) : Abs :=
  if (stepF a = 0 ∧ stepF b = 0) ∨ op < 4 ∨ 10 < op then ofF (opG op a.lo b.lo) (orM a.mask b.mask)
  else if op = 4 then addF a b (orM a.mask b.mask) else if op = 5 then subF a b (orM a.mask b.mask) else if op = 6 then mulF a b (orM a.mask b.mask)
  else if op = 7 then divF a b (orM a.mask b.mask) else if op = 8 then remF a b (orM a.mask b.mask) else if op = 9 then lesserF a b (orM a.mask b.mask) else greaterF a b (orM a.mask b.mask)
def madeLo (lo : Int) : Int := w32 lo
def madeM (m : Int) : Int := 1 + m % 1048576
def madeF (lo n m mask : Int) : Abs :=
  byF (w32 lo) (min (w32 lo + n % 2147483648 / madeM m * madeM m) (2147483647 - (2147483647 - w32 lo) % madeM m)) (madeM m) (mask % 256)
def atV (a : Abs) (n : Int) : Int := a.lo + n % ((a.hi - a.lo) / a.m + 1) * a.m
/-- What is asked of the arguments. -/
def okN (n : Int) : Bool := decide (-1099511627776 ≤ n) && decide (n ≤ 1099511627776)
def okW (n : Int) : Bool := decide (-4611686018427387904 ≤ n) && decide (n ≤ 4611686018427387904)
def okV (n : Int) : Bool := decide (-9223372036854775807 ≤ n) && decide (n ≤ 9223372036854775807)
def okMod (m : Int) : Bool := decide (0 < m) && okW m
def okBy (lo hi m : Int) : Bool := okN lo && (okN hi && (okV m && (decide (lo ≤ hi) && (decide (0 ≤ m) && decide (m = 0 → lo = hi)))))
def okLike (r m lo hi : Int) : Bool := okW r && (okN lo && (okN hi && (decide (0 < m) && (okW m && decide (lo + (r - lo) % m ≤ hi)))))
def okBnd (lo hi m : Int) : Bool := okW lo && (okW hi && (okV m && (decide (lo ≤ hi) && (decide (0 ≤ m) && decide (m = 0 → lo = hi)))))
def okL (l : List Int) : Bool := l.all okV && decide (l.length ≤ 1000)
def okM (n : Int) : Bool := decide (0 ≤ n) && decide (n ≤ 255)
def okMul (a b : Abs) : Bool := okW (stepF a * stepF b)
theorem okN_iff {n : Int} : okN n = true ↔ -1099511627776 ≤ n ∧ n ≤ 1099511627776 := by simp [okN]
theorem okW_iff {n : Int} : okW n = true ↔ -4611686018427387904 ≤ n ∧ n ≤ 4611686018427387904 := by simp [okW]
theorem okV_iff {n : Int} : okV n = true ↔ -9223372036854775807 ≤ n ∧ n ≤ 9223372036854775807 := by simp [okV]
theorem wrap_of {n : Int} (h0 : -9223372036854775808 ≤ n) (h1 : n ≤ 9223372036854775807) : IntKind.i64.wrap n = n := by
  have e : IntKind.i64.wrap n = if n % 18446744073709551616 ≥ 9223372036854775808 then n % 18446744073709551616 - 18446744073709551616 else n % 18446744073709551616 := by
    simp [IntKind.wrap, IntKind.bits, IntKind.signed]
  rw [e]; split <;> omega
theorem emod_le {x m : Int} (h : 0 ≤ x) (hm : 0 < m) : x % m ≤ x := by
  have h1 := Int.mul_ediv_add_emod x m
  have h2 : 0 ≤ m * (x / m) := Int.mul_nonneg (by omega) (Int.ediv_nonneg h (by omega))
  omega
theorem mnI_eq (a b : Int) : mnI a b = min a b := by unfold mnI; split <;> omega
theorem mxI_eq (a b : Int) : mxI a b = max a b := by unfold mxI; split <;> omega
end Go.Proofs.Ytamfgbenceoleaa.Span
