/- What the functions of layer 1 do, by value: the program's own, part three. -/
import Derived.Test.YtdaoblhmnafllaaDoorCtB
set_option linter.unusedVariables false
set_option linter.unusedSimpArgs false
namespace Go.Proofs.YtdaoblhmnafllaaDoor
open Go.Proofs

/-- Before a round of down's loop. -/
def downI (n : Nat) (ia ib : Sid) (a b : List Nat) (k : Nat) (s : St) : Prop :=
  ∃ (i c g nx : Nat) (out : List Nat), i + k = a.length ∧ At s 44 [] nx [(0, .sl ia 1 (u32s a)), (1, .sl ib 1 (u32s b)), (5, .sl ⟨n, g, 0⟩ 1 (u32s out)), (6, .int .u32 c), (15, .int .i64 a.length), (16, .int .i64 i)] ∧ tipOf s.tips g n = some i ∧ 0 < g ∧ g < nx ∧ n < nx ∧ out.length = i ∧ Lim out ∧ c ≤ 1 ∧ val out + val (b.take i) = val (a.take i) + 4294967296 ^ i * c
theorem diff_step {v vb p t d c x y va : Nat} (e : t + y + c = x + 4294967296 * d) (h : v + vb = va + p * c) : v + p * t + (vb + p * y) = va + p * x + p * 4294967296 * d := by
  have := congrArg (p * ·) e
  simp only [Nat.mul_add] at this
  rw [← Nat.mul_assoc p 4294967296] at this
  omega
/-- Which of limbs are more. -/
def sizeL (a b : List Nat) : Int := if a.length < b.length then -1 else if b.length < a.length then 1 else if val a < val b then -1 else if val b < val a then 1 else 0
def sizeI (n : Nat) (ia ib : Sid) (a b : List Nat) (k : Nat) (s : St) : Prop :=
  k ≤ a.length ∧ At s 43 [] n [(0, .sl ia 1 (u32s a)), (1, .sl ib 1 (u32s b)), (5, .int .i64 ((k : Int) - 1))] ∧ a.drop k = b.drop k
end Go.Proofs.YtdaoblhmnafllaaDoor
