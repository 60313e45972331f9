/- What the functions of layer 1 do, by value: products. -/
import Derived.Test.YtdaoblhmnafllaaDoorCtH
set_option linter.unusedVariables false
set_option linter.unusedSimpArgs false
namespace Go.Proofs.YtdaoblhmnafllaaDoor
open Go.Proofs

@[simp] theorem replicate_u32 (n : Nat) : List.replicate n (PV.int .u32 0) = u32s (List.replicate n 0) := by simp [u32s]
theorem set_getD_other {o : List Nat} {p q v : Nat} (h : ¬ p = q) : (o.set p v).getD q 0 = o.getD q 0 := by simp [List.getD, List.getElem?_set, h]

@[simp] theorem pvupd_far (f g off z j c z' : Nat) (i' : Sid) (vs : List PV) (l : List Nat) (h : ¬ i'.f = f) : PV.upd ⟨f, g, off⟩ z j c vs (.sl i' z' (u32s l)) = .sl i' z' (u32s l) := pvupd_other _ _ _ _ _ _ _ _ h
@[simp] theorem pvupd_far0 (f g off z j c z' f' g' off' : Nat) (vs : List PV) (h : ¬ f' = f) : PV.upd ⟨f, g, off⟩ z j c vs (.sl ⟨f', g', off'⟩ z' []) = .sl ⟨f', g', off'⟩ z' [] := pvupd_other _ _ _ _ _ _ _ [] h
theorem mul_set {p v P R w c xy lo hi : Nat} (e : lo + 4294967296 * hi = xy + w + c) (h : p + P * w = v + P * lo) (h2 : v + P * c = R) : p + P * 4294967296 * hi = R + P * xy := by
  have := congrArg (P * ·) e
  simp only [Nat.mul_add] at this
  rw [← Nat.mul_assoc] at this
  omega
def mulBs (na nb : Bool) (ia ib : Sid) (a b : List Nat) : List (List PV) := [[.bool na, .sl ia 1 (u32s a)], [.bool nb, .sl ib 1 (u32s b)], [.bool false, .sl ⟨0, 0, 0⟩ 1 []]]
def mulI (na nb : Bool) (ia ib : Sid) (a b : List Nat) (n : Nat) (k : Nat) (s : St) : Prop :=
  ∃ (i : Nat) (o : List Nat), i + k = a.length ∧ At s 86 (mulBs na nb ia ib a b) (n + 1) [(2, .box 0 0), (3, .box 1 0), (4, .box 2 0), (6, .sl ⟨n, n, 0⟩ 1 (u32s o)), (27, .sl ia 1 (u32s a)), (28, .int .i64 a.length), (29, .int .i64 i)] ∧ s.n0 = n ∧ o.length = a.length + b.length ∧ Lim o ∧ (∀ q, i + b.length ≤ q → o.getD q 0 = 0) ∧ val o = val (a.take i) * val b
def mulJ (na nb : Bool) (ia ib : Sid) (a b : List Nat) (n i x : Nat) (o : List Nat) (k : Nat) (s : St) : Prop :=
  ∃ (j c : Nat) (o' : List Nat), j + k = b.length ∧ At s 86 (mulBs na nb ia ib a b) (n + 1) [(2, .box 0 0), (3, .box 1 0), (4, .box 2 0), (6, .sl ⟨n, n, 0⟩ 1 (u32s o')), (27, .sl ia 1 (u32s a)), (28, .int .i64 a.length), (29, .int .i64 i), (7, .int .i64 i), (8, .int .u32 x), (9, .int .u64 c), (35, .sl ib 1 (u32s b)), (36, .int .i64 b.length), (37, .int .i64 j)] ∧ s.n0 = n ∧ o'.length = a.length + b.length ∧ Lim o' ∧ c < 4294967296 ∧ (∀ q, i + b.length ≤ q → o'.getD q 0 = 0) ∧ val o' + 4294967296 ^ (i + j) * c = val o + 4294967296 ^ i * (x * val (b.take j))

end Go.Proofs.YtdaoblhmnafllaaDoor
