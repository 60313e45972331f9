/- What the functions of layer 1 do, by value: the reference's products. -/
import Derived.Test.YtcdkgeeookcoeaaCtP
set_option linter.unusedVariables false
set_option linter.unusedSimpArgs false
namespace Go.Proofs.Ytcdkgeeookcoeaa
open Go.Proofs

theorem mul_lim {x y : Nat} (hx : x < 4294967296) (hy : y < 4294967296) : x * y ≤ 18446744065119617025 := by
  have := Nat.mul_le_mul (show x ≤ 4294967295 by omega) (show y ≤ 4294967295 by omega)
  omega
theorem mul_step {v w p t d c xy : Nat} (e : t + 4294967296 * d = xy + c) (h : v + p * c = w) : v + p * t + p * 4294967296 * d = w + p * xy := by
  have := congrArg (p * ·) e
  simp only [Nat.mul_add] at this
  rw [← Nat.mul_assoc] at this
  omega
def singleI (n : Nat) (ia : Sid) (a : List Nat) (x : Nat) (k : Nat) (s : St) : Prop :=
  ∃ (i c g nx : Nat) (out : List Nat), i + k = a.length ∧ At s 39 [] nx [(0, .sl ia 1 (u32s a)), (1, .int .u32 x), (5, .sl ⟨n, g, 0⟩ 1 (u32s out)), (6, .int .u64 c), (7, .int .i64 i)] ∧ tipOf s.tips g n = some i ∧ 0 < g ∧ g < nx ∧ n < nx ∧ out.length = i ∧ Lim out ∧ c < 4294967296 ∧ val out + 4294967296 ^ i * c = val (a.take i) * x
theorem single_call {n : Nat} (hn : 0 < n) (ia : Sid) (a : List Nat) (x : Nat) (ha : a.length < 35184372088800) (la : Lim a) (hx : x < 4294967296) {Q : PV → Nat → List Nat → Prop}
    (hQ : ∀ (i : Sid) (l : List Nat) (n' : Nat), n ≤ n' → n ≤ i.f → i.f < n' → Lim l → val l = val a * x → l.length = a.length + 1 → Q (.sl i 1 (u32s l)) n' []) : PCall Try.prog 43 [.sl ia 1 (u32s a), .int .u32 x] n Q := by
  refine of43 hn ?_
  simp (disch := omega) [c43]
  refine GO_loopN (singleI n ia a x) a.length ⟨0, 0, n, n + 1, [], by omega, by simp [At], by simp, by omega, by omega, by omega, rfl, .nil, by omega, by simp⟩ ?_
  rintro k s ⟨i, c, g, nx, out, hi, ⟨e1, e2, e3, e4, e5⟩, ht, hg, hgx, hnx, hol, lo, hc, hv⟩
  simp at e5
  obtain ⟨e5, e6, e7, e8, e9⟩ := e5
  by_cases hk : i < a.length
  · have hy := la.get hk
    obtain ⟨y, hy0⟩ : ∃ y, y = a[i] := ⟨_, rfl⟩
    have hp := mul_lim (show y < 4294967296 by omega) hx
    obtain ⟨p, hp0⟩ : ∃ p, p = y * x := ⟨_, rfl⟩
    rw [← hp0] at hp
    have hpi : (y : Int) * (x : Int) = (p : Int) := by rw [hp0]; simp
    obtain ⟨t, ht0⟩ : ∃ t, t = (p + c) % 4294967296 := ⟨_, rfl⟩
    obtain ⟨d, hd0⟩ : ∃ d, d = (p + c) / 4294967296 := ⟨_, rfl⟩
    have hst : t + 4294967296 * d = p + c := by omega
    have hrem : ((p : Int) + c).tmod 4294967296 = (t : Int) := by rw [Int.tmod_eq_emod_of_nonneg (by omega)]; omega
    have hquo : ((p : Int) + c).tdiv 4294967296 = (d : Int) := by rw [Int.tdiv_eq_ediv_of_nonneg (by omega)]; omega
    simp (disch := omega) [c43L0, e1, e2, e3, e4, e5, e6, e7, e8, e9, hk, ← hy0, hpi, hrem, hquo, ht, hol]
    refine ⟨by omega, k - 1, by omega, i + 1, d, nx + 1, nx + 2, out ++ [t], by omega, ?_, ?_, by omega, by omega, by omega, by simp [hol], lo.append (.one (by omega)), by omega, ?_⟩
    · simp [At, e1, e2, e3, e4, e5, e6, e7, e8, e9]
    · simp [e3]
    · rw [val_append, val_take_succ, hol, Nat.pow_succ, Nat.add_mul, Nat.mul_assoc]
      simp only [List.getD, List.getElem?_eq_getElem hk, Option.getD_some, ← hy0, ← hp0, val_cons, val_nil, Nat.mul_zero, Nat.add_zero]
      have := mul_step hst hv
      rw [Nat.mul_assoc, hp0, ← Nat.mul_assoc _ y x] at this
      exact this
  · have hkl : i = a.length := by omega
    simp (disch := omega) [c43L0, c43R0, e1, e2, e3, e4, e5, e6, e7, e8, e9, hk, ht, hol]
    rw [List.take_of_length_le (by omega)] at hv
    refine ⟨by omega, by omega, hQ _ _ _ (by omega) (by simp) (by simp; omega) (lo.append (.one hc)) ?_ (by simp; omega)⟩
    rw [val_append, hol]; simpa using hv

theorem numW_mul (na nb : Bool) (a b : List Nat) : (numW na a * numW nb b).natAbs = val a * val b := by rw [Int.natAbs_mul, numW_abs, numW_abs]
theorem numW_mul_neg (na nb : Bool) (a b : List Nat) (h : val a * val b ≠ 0) : (na != nb) = decide (numW na a * numW nb b < 0) := by
  have h2 : 0 < (val a : Int) * (val b : Int) := by
    have : ((val a * val b : Nat) : Int) = (val a : Int) * val b := by simp
    omega
  unfold numW
  cases na <;> cases nb <;> simp [Int.neg_mul, Int.mul_neg] <;> omega

@[simp] theorem u32s_zero_cons (l : List Nat) : PV.int .u32 0 :: u32s l = u32s (0 :: l) := rfl
@[simp ↓] theorem AppK_zero_u32s {f g off : Nat} {i2 : Sid} {m : List Nat} {s : St} {K : St → PV → Prop} (hg : ¬ g = 0) :
    AppK 1 4 (.sl ⟨f, g, off⟩ 1 [.int .u32 0]) (.sl i2 1 (u32s m)) s K ↔ (1 + m.length) * 4 ≤ 140737488355328 ∧ tipOf s.tips g f = some (off + 1) ∧ K (s.regrown g f (1 + m.length)) (.sl ⟨f, s.next, 0⟩ 1 (u32s (0 :: m))) := by
  simp [AppK, hg]

def refMulI (na nb : Bool) (ia ib : Sid) (a b : List Nat) (n : Nat) (k : Nat) (s : St) : Prop :=
  k ≤ b.length ∧ ∃ (i : Sid) (nx : Nat) (sum : List Nat), At s 37 [[.bool na, .sl ia 1 (u32s a)], [.bool nb, .sl ib 1 (u32s b)], [.bool false, .sl ⟨0, 0, 0⟩ 1 []]] nx [(2, .box 0 0), (3, .box 1 0), (4, .box 2 0), (5, .sl i 1 (u32s sum)), (6, .int .i64 ((k : Int) - 1))] ∧ n ≤ i.f ∧ i.f < nx ∧ sum.length ≤ a.length + 2 * (b.length - k) ∧ Lim sum ∧ val sum = val a * val (b.drop k)
theorem refMul_call {n : Nat} (hn : 0 < n) (na nb : Bool) (ia ib : Sid) (a b : List Nat) (ha : a.length ≤ 1048576) (hb : b.length ≤ 1048576) (la : Lim a) (lb : Lim b) (z : Int) (hz : numW na a * numW nb b = z) {Q : PV → Nat → List Nat → Prop}
    (hQ : ∀ (i : Sid) (n' : Nat), n ≤ n' → newSid n n' i → Q (W (decide (z < 0)) i (dig z.natAbs)) n' []) : PCall Try.prog 22 [W na ia a, W nb ib b] n Q := by
  simp only [W] at hQ
  refine of22 hn ?_
  simp (disch := omega) [c22]
  refine GO_loopN (refMulI na nb ia ib a b n) b.length ⟨by omega, ⟨n, n, 0⟩, n + 1, [], by simp [At], by simp, by simp, by simp, .nil, by simp⟩ ?_
  rintro k s ⟨hk, i, nx, sum, ⟨e1, e2, e3, e4, e5⟩, hi1, hi2, hsl, ls, hv⟩
  simp at e5
  obtain ⟨e5, e6, e7, e8, e9⟩ := e5
  cases k with
  | zero =>
    simp at hv
    simp (disch := omega) [c22L0, c22R0, e1, e2, e3, e4, e5, e6, e7, e8, e9]
    refine CallK.of (by simp) (Made_call' (by omega) (na != nb) i sum (by omega) ls z ?_ ?_ fun i' hi' => ?_)
    · rw [hv, ← hz, numW_mul]
    · rw [hv, ← hz]; exact numW_mul_neg na nb a b
    · have := hQ i' nx (by omega) (by rcases hi' with e | e; exact .inl e; subst e; exact .inr ⟨hi1, hi2⟩)
      simpa (disch := omega) [e1, e2, e3, e4, e5, e6, e7, e8, e9] using ⟨by omega, this⟩
  | succ j =>
    have hj : j < b.length := by omega
    have hw : ((j + 1 : Nat) : Int) - 1 = (j : Int) := by omega
    have hx := lb.get hj
    obtain ⟨x, hx0⟩ : ∃ x, x = b[j] := ⟨_, rfl⟩
    rw [hw] at e9
    simp (disch := omega) [c22L0, e1, e2, e3, e4, e5, e6, e7, e8, e9, hj, ← hx0]
    refine ⟨by omega, ?_⟩
    refine CallK.of (by simp) (single_call (by omega) ia a x (by omega) la (by omega) fun i1 l1 n1 h1 h2 h3 h4 h5 h6 => ?_)
    simp (disch := omega) [e1, e2, e3, e4, e5, e6, e7, e8, e9, hj]
    refine CallK.of (by simp) (plus_call (by omega) _ i1 (0 :: sum) l1 (by simp; omega) (by omega) (by intro y hy; rcases List.mem_cons.1 hy with e | e; omega; exact ls y e) h4 fun i2 l2 n2 k1 k2 k3 k4 k5 k6 => ?_)
    simp (disch := omega) [e1, e2, e3, e4, e5, e6, e7, e8, e9, hj]
    refine ⟨j, by omega, by omega, i2, n2, l2, ?_, by omega, by omega, by simp at k6; omega, k4, ?_⟩
    · simp [At, e1, e2, e3, e4, e5, e6, e7, e8, e9]
    · rw [k5, h5, List.drop_eq_getElem_cons hj, ← hx0, val_cons, val_cons, hv, Nat.mul_add]
      rw [Nat.mul_left_comm]
      omega

def lightB (na nb : Bool) (a b : List Nat) : Bool := (decide (a.length ≤ 40) || !rightW na a) && (decide (b.length ≤ 40) || !rightW nb b)
end Go.Proofs.Ytcdkgeeookcoeaa
