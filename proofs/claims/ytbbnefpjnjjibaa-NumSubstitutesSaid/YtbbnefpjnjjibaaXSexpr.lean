/- Expressions (trees of api.Expr), opened: what is known of a tree that was read, and how much it holds. No condition. -/
import Derived.Test.YtbbnefpjnjjibaaXOpen
import Derived.Test.YtbbnefpjnjjibaaXSf0
namespace Go.Proofs.Ytbbnefpjnjjibaa.OpnS
open Go.RowKit Go.Proofs.YtbbnefpjnjjibaaW.PrintWords Go.Proofs.Ytbbnefpjnjjibaa.XS Go.Proofs.Ytbbnefpjnjjibaa.Opn
set_option linter.unusedVariables false

/-- What is known of a tree that was read: 64-bit numbers, and room for each node's operands. -/
inductive GoodE : S29 → Prop
  | mk {x : S29} (h0 : (Lit.int .i64 x.f0).wf = true) (h1 : (Lit.int .i64 x.f1).wf = true) (h2 : (Lit.int .i64 x.f2).wf = true) (hl : x.f3.length * 48 ≤ 140737488351232) (hs : ∀ y ∈ x.f3, GoodE y) : GoodE x
mutual
/-- How much a tree holds. -/
def sizeE : S29 → Nat
  | ⟨_, _, _, l⟩ => sizeEs l + 5
def sizeEs : List S29 → Nat
  | [] => 0
  | x :: r => sizeE x + sizeEs r
end
theorem sizeEs_sum : ∀ l : List S29, sizeEs l = (l.map sizeE).sum
  | [] => by simp [sizeEs]
  | x :: r => by simp [sizeEs, sizeEs_sum r]
theorem sizeE_eq (x : S29) : sizeE x = (x.f3.map sizeE).sum + 5 := by
  cases x
  simp [sizeE, sizeEs_sum]
section
variable {H : Type} {enc : TypeId × Value → H} {W : World}
theorem opens_expr : ∀ m, Opens enc Try.prog W m 29 k29 GoodE sizeE := by
  intro m
  induction m using Nat.strongRecOn with
  | ind m ih =>
    match m with
    | 0 =>
      intro fuel hf cs x hx
      obtain rfl : fuel = 0 := by omega
      simp [DataW.trod] at hx
    | n + 1 =>
      have hs : Opens enc Try.prog W n 27 (Kd.slice 29 k29) (GoodRow (Try.prog.bytesOf 29) GoodE) (SizeRow sizeE) := by
        match n with
        | 0 =>
          intro fuel hf cs x hx
          obtain rfl : fuel = 0 := by omega
          simp [DataW.trod] at hx
        | n + 1 => exact opens_slice Try.underlying27 (by kernel_rfl) (ih n (by omega))
      intro fuel hf cs x hx hw
      obtain ⟨a, hK, hg, hz⟩ := opens_struct Try.underlying29 (by kernel_rfl) (row_cons (opens_int Try.underlying3) (row_cons (opens_int Try.underlying3) (row_cons (opens_int Try.underlying3) (row_one hs)))) fuel hf cs x hx hw
      obtain ⟨a0, a1, a2, l⟩ := a
      obtain ⟨_, _, rfl, rfl, _, _, rfl, rfl, _, _, rfl, rfl, A, c, rfl, hl, hC⟩ := hK
      obtain ⟨g0, g1, g2, g3⟩ := hg
      refine ⟨⟨a0, a1, a2, l⟩, k29_mk W ⟨a0, a1, a2, l⟩ hl hC, .mk g0 g1 g2 ?_ g3.2.2, ?_⟩
      · have e : Try.prog.bytesOf 29 = 48 := by kernel_rfl
        have := g3.1
        rw [e] at this
        exact this
      · rw [sizeE_eq]
        simp only [SizeRow] at hz
        show (l.map sizeE).sum + 5 ≤ _
        omega
end
end Go.Proofs.Ytbbnefpjnjjibaa.OpnS
