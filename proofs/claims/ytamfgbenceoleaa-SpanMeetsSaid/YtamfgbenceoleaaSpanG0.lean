import Derived.Test.YtamfgbenceoleaaSpanC2
/-! The contract of gcd: two loops. -/
namespace Go.Proofs.Ytamfgbenceoleaa.Span
set_option linter.unusedVariables false
set_option linter.unusedSimpArgs false
set_option linter.unusedSectionVars false
set_option linter.unnecessarySimpa false
open Go.Proofs.Ytamfgbenceoleaa.Ev Go.RowKit
set_option maxRecDepth 100000
/-- Euclid, as the loop runs. -/
def euN : Nat → Int → Int → Int
  | 0, a, _ => a
  | n + 1, a, b => if b = 0 then a else euN n b (a.tmod b)
def euF (a b : Int) : Int := euN (b.natAbs + 1) a b
theorem euN_more : ∀ (n m : Nat) (a b : Int), b.natAbs < n → b.natAbs < m → euN n a b = euN m a b
  | 0, _, _, _, h, _ => absurd h (Nat.not_lt_zero _)
  | _, 0, _, _, _, h => absurd h (Nat.not_lt_zero _)
  | n + 1, m + 1, a, b, h1, h2 => by
    simp only [euN]
    split
    · rfl
    · rename_i hb
      have : (a.tmod b).natAbs < b.natAbs := by rw [Int.natAbs_tmod]; exact Nat.mod_lt _ (by omega)
      exact euN_more n m b _ (by omega) (by omega)
theorem euF_zero (a : Int) : euF a 0 = a := rfl
theorem euF_step (a b : Int) (h : b ≠ 0) : euF a b = euF b (a.tmod b) := by
  have hlt : (a.tmod b).natAbs < b.natAbs := by rw [Int.natAbs_tmod]; exact Nat.mod_lt _ (by omega)
  unfold euF
  rw [show b.natAbs + 1 = (b.natAbs) + 1 from rfl, euN, if_neg h]
  exact euN_more _ _ _ _ hlt (by omega)
theorem euF_abs : ∀ (n : Nat) (a b : Int), b.natAbs < n → (euF a b).natAbs = Nat.gcd a.natAbs b.natAbs
  | 0, _, _, h => absurd h (Nat.not_lt_zero _)
  | n + 1, a, b, h => by
    by_cases hb : b = 0
    · subst hb; rw [euF_zero]; simp
    · have hlt : (a.tmod b).natAbs < b.natAbs := by rw [Int.natAbs_tmod]; exact Nat.mod_lt _ (by omega)
      rw [euF_step a b hb, euF_abs n b _ (by omega), Int.natAbs_tmod, Nat.gcd_comm, ← Nat.gcd_rec, Nat.gcd_comm]
theorem euF_ok (a b : Int) (ha : okV a = true) (hb : okV b = true) : okV (euF a b) = true := by
  rw [okV_iff] at *
  have h := euF_abs (b.natAbs + 1) a b (by omega)
  by_cases h0 : a = 0
  · subst h0; simp at h; omega
  · have := Nat.gcd_le_left b.natAbs (show 0 < a.natAbs by omega)
    omega
def foldE (a : Int) (l : List Int) : Int := l.foldl euF a
theorem foldE_abs : ∀ (l : List Int) (a : Int), (foldE a l).natAbs = l.foldl (fun (g : Nat) (b : Int) => Nat.gcd g b.natAbs) a.natAbs
  | [], a => rfl
  | b :: l, a => by
    show (foldE (euF a b) l).natAbs = _
    rw [foldE_abs l, euF_abs (b.natAbs + 1) a b (by omega)]; rfl
theorem foldE_ok : ∀ (l : List Int) (a : Int), okV a = true → l.all okV = true → okV (foldE a l) = true
  | [], a, h, _ => h
  | b :: l, a, h, hl => by
    simp only [List.all_cons, Bool.and_eq_true] at hl
    exact foldE_ok l _ (euF_ok a b h hl.1) hl.2
def gk : Nat → List Nat
  | 2 => [0, 7, 8, 9]
  | 4 => [0, 6, 7, 8, 9]
  | 1002 => [0]
  | 1004 => [0, 7, 8, 9]
  | _ => []
def gl4 : List V → Hp Tok → Tr (Lf Tok)
  | [.int .i64 a, .int .i64 b, .slc f t, .int .i64 n, .int .i64 i], [] => .br (okV a && okV b) (.ret (.exit 2, [iA (euF a b), .slc f t, iA n, iA i], [])) .fail
  | _, _ => .fail
def gl2 : List V → Hp Tok → Tr (Lf Tok)
  | [.int .i64 a, .slc f (.ints l), .int .i64 n, .int .i64 i], [] => .br (okV a && (okL l && (decide (n = l.length) && decide (0 ≤ i)))) (.ret (.exit 0, [iA (foldE a (l.drop i.toNat))], [])) .fail
  | _, _ => .fail
def glsp : Nat → List V → Hp Tok → Tr (Lf Tok)
  | 4 => gl4
  | 2 => gl2
  | _ => noLoops 0
end Go.Proofs.Ytamfgbenceoleaa.Span
