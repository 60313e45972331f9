/- What the functions of layer 1 do, by value: the reference's products. -/
import Derived.Test.YtdaoblhmnafllaaDoorCtP
set_option linter.unusedVariables false
set_option linter.unusedSimpArgs false
namespace Go.Proofs.YtdaoblhmnafllaaDoor
open Go.Proofs

theorem mul_lim {x y : Nat} (hx : x < 4294967296) (hy : y < 4294967296) : x * y ≤ 18446744065119617025 := by
  have := Nat.mul_le_mul (show x ≤ 4294967295 by omega) (show y ≤ 4294967295 by omega)
  omega
theorem mul_step {v w p t d c xy : Nat} (e : t + 4294967296 * d = xy + c) (h : v + p * c = w) : v + p * t + p * 4294967296 * d = w + p * xy := by
  have := congrArg (p * ·) e
  simp only [Nat.mul_add] at this
  rw [← Nat.mul_assoc] at this
  omega
def singleI (n : Nat) (ia : Sid) (a : List Nat) (x : Nat) (k : Nat) (s : St) : Prop :=
  ∃ (i c g nx : Nat) (out : List Nat), i + k = a.length ∧ At s 39 [] nx [(0, .sl ia 1 (u32s a)), (1, .int .u32 x), (5, .sl ⟨n, g, 0⟩ 1 (u32s out)), (6, .int .u64 c), (7, .int .i64 i)] ∧ tipOf s.tips g n = some i ∧ 0 < g ∧ g < nx ∧ n < nx ∧ out.length = i ∧ Lim out ∧ c < 4294967296 ∧ val out + 4294967296 ^ i * c = val (a.take i) * x
theorem numW_mul (na nb : Bool) (a b : List Nat) : (numW na a * numW nb b).natAbs = val a * val b := by rw [Int.natAbs_mul, numW_abs, numW_abs]
theorem numW_mul_neg (na nb : Bool) (a b : List Nat) (h : val a * val b ≠ 0) : (na != nb) = decide (numW na a * numW nb b < 0) := by
  have h2 : 0 < (val a : Int) * (val b : Int) := by
    have : ((val a * val b : Nat) : Int) = (val a : Int) * val b := by simp
    omega
  unfold numW
  cases na <;> cases nb <;> simp [Int.neg_mul, Int.mul_neg] <;> omega

@[simp] theorem u32s_zero_cons (l : List Nat) : PV.int .u32 0 :: u32s l = u32s (0 :: l) := rfl
@[simp ↓] theorem AppK_zero_u32s {f g off : Nat} {i2 : Sid} {m : List Nat} {s : St} {K : St → PV → Prop} (hg : ¬ g = 0) :
    AppK 1 4 (.sl ⟨f, g, off⟩ 1 [.int .u32 0]) (.sl i2 1 (u32s m)) s K ↔ (1 + m.length) * 4 ≤ 140737488355328 ∧ tipOf s.tips g f = some (off + 1) ∧ K (s.regrown g f (1 + m.length)) (.sl ⟨f, s.next, 0⟩ 1 (u32s (0 :: m))) := by
  simp [AppK, hg]

def refMulI (na nb : Bool) (ia ib : Sid) (a b : List Nat) (n : Nat) (k : Nat) (s : St) : Prop :=
  k ≤ b.length ∧ ∃ (i : Sid) (nx : Nat) (sum : List Nat), At s 37 [[.bool na, .sl ia 1 (u32s a)], [.bool nb, .sl ib 1 (u32s b)], [.bool false, .sl ⟨0, 0, 0⟩ 1 []]] nx [(2, .box 0 0), (3, .box 1 0), (4, .box 2 0), (5, .sl i 1 (u32s sum)), (6, .int .i64 ((k : Int) - 1))] ∧ n ≤ i.f ∧ i.f < nx ∧ sum.length ≤ a.length + 2 * (b.length - k) ∧ Lim sum ∧ val sum = val a * val (b.drop k)
def lightB (na nb : Bool) (a b : List Nat) : Bool := (decide (a.length ≤ 40) || !rightW na a) && (decide (b.length ≤ 40) || !rightW nb b)
end Go.Proofs.YtdaoblhmnafllaaDoor
