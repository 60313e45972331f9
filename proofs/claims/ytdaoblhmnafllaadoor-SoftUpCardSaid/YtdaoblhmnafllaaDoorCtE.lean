/- What the functions of layer 1 do, by value: the reference's sums and differences. -/
import Derived.Test.YtdaoblhmnafllaaDoorCtD
set_option linter.unusedVariables false
set_option linter.unusedSimpArgs false
namespace Go.Proofs.YtdaoblhmnafllaaDoor
open Go.Proofs

theorem limb_call {n : Nat} (hn : 0 < n) (i : Sid) (l : List Nat) (hl : l.length < 35184372088800) (k : Nat) (ll : Lim l) {Q : PV → Nat → List Nat → Prop}
    (hQ : Q (.int .u64 (l.getD k 0 : Nat)) n []) : PCall Tryd.prog 76 [.sl i 1 (u32s l), .int .i64 k] n Q := by
  refine of76 hn ?_
  by_cases hk : k < l.length
  · have hx := ll.get hk
    simp [List.getD, hk] at hQ
    simpa (disch := omega) [c76, hk] using hQ
  · simp [List.getD, hk] at hQ
    simpa (disch := omega) [c76, hk] using hQ

def plusI (n : Nat) (ia ib : Sid) (a b : List Nat) (k : Nat) (s : St) : Prop :=
  ∃ (i c g nx : Nat) (out : List Nat), i + k = max a.length b.length + 1 ∧ At s 37 [] nx [(0, .sl ia 1 (u32s a)), (1, .sl ib 1 (u32s b)), (5, .sl ⟨n, g, 0⟩ 1 (u32s out)), (6, .int .u64 c), (7, .int .i64 i)] ∧ tipOf s.tips g n = some i ∧ 0 < g ∧ g < nx ∧ n < nx ∧ out.length = i ∧ Lim out ∧ c ≤ 1 ∧ val out + 4294967296 ^ i * c = val (a.take i) + val (b.take i)
theorem plus_call {n : Nat} (hn : 0 < n) (ia ib : Sid) (a b : List Nat) (ha : a.length < 35184372088800) (hb : b.length < 35184372088800) (la : Lim a) (lb : Lim b) {Q : PV → Nat → List Nat → Prop}
    (hQ : ∀ (i : Sid) (l : List Nat) (n' : Nat), n ≤ n' → n ≤ i.f → i.f < n' → Lim l → val l = val a + val b → l.length = max a.length b.length + 1 → Q (.sl i 1 (u32s l)) n' []) : PCall Tryd.prog 82 [.sl ia 1 (u32s a), .sl ib 1 (u32s b)] n Q := by
  refine of82 hn ?_
  simp (disch := omega) [c82]
  refine GO_loopN (plusI n ia ib a b) (max a.length b.length + 1) ⟨0, 0, n, n + 1, [], by omega, by simp [At], by simp, by omega, by omega, by omega, rfl, .nil, by omega, by simp⟩ ?_
  rintro k s ⟨i, c, g, nx, out, hi, ⟨e1, e2, e3, e4, e5⟩, ht, hg, hgx, hnx, hol, lo, hc, hv⟩
  simp at e5
  obtain ⟨e5, e6, e7, e8, e9⟩ := e5
  by_cases hk : i ≤ max a.length b.length
  · have hx := la.getD i
    have hy := lb.getD i
    have hst : (a.getD i 0 + b.getD i 0 + c) % 4294967296 + 4294967296 * ((a.getD i 0 + b.getD i 0 + c) / 4294967296) = a.getD i 0 + b.getD i 0 + c := by omega
    have hd : (a.getD i 0 + b.getD i 0 + c) / 4294967296 ≤ 1 := by omega
    have ht1 : (a.getD i 0 + b.getD i 0 + c) % 4294967296 < 4294967296 := by omega
    obtain ⟨t, ht0⟩ : ∃ t, t = (a.getD i 0 + b.getD i 0 + c) % 4294967296 := ⟨_, rfl⟩
    obtain ⟨d, hd0⟩ : ∃ d, d = (a.getD i 0 + b.getD i 0 + c) / 4294967296 := ⟨_, rfl⟩
    rw [← ht0, ← hd0] at hst
    rw [← hd0] at hd
    rw [← ht0] at ht1
    generalize hxx : a.getD i 0 = x at *
    generalize hyy : b.getD i 0 = y at *
    have hrem : ((x : Int) + y + c).tmod 4294967296 = (t : Int) := by rw [Int.tmod_eq_emod_of_nonneg (by omega)]; omega
    have hquo : ((x : Int) + y + c).tdiv 4294967296 = (d : Int) := by rw [Int.tdiv_eq_ediv_of_nonneg (by omega)]; omega
    simp (disch := omega) [c82L0, e1, e2, e3, e4, e5, e6, e7, e8, e9, hk]
    refine CallK.of (by simp) (limb_call (by omega) ia a ha i la ?_)
    rw [hxx]
    simp (disch := omega) [e1, e2, e3, e4, e5, e6, e7, e8, e9, hk]
    refine CallK.of (by simp) (limb_call (by omega) ib b hb i lb ?_)
    rw [hyy]
    simp (disch := omega) [e1, e2, e3, e4, e5, e6, e7, e8, e9, hk, hrem, hquo, ht, hol]
    refine ⟨by omega, k - 1, by omega, i + 1, d, nx + 1, nx + 2, out ++ [t], by omega, ?_, ?_, by omega, by omega, by omega, by simp [hol], lo.append (.one ht1), hd, ?_⟩
    · simp [At, e1, e2, e3, e4, e5, e6, e7, e8, e9]
    · simp
    · rw [val_append, val_take_succ, val_take_succ, hol, Nat.pow_succ, hxx, hyy]
      simpa using sum_step hst hv
  · have hk2 : ¬ (i ≤ a.length ∨ i ≤ b.length) := by omega
    simp (disch := omega) [c82L0, c82R0, e1, e2, e3, e4, e5, e6, e7, e8, e9, hk]
    rw [List.take_of_length_le (by omega), List.take_of_length_le (by omega)] at hv
    have hc0 : c = 0 := by
      have h1 := val_lt la
      have h2 := val_lt lb
      have h3 : 4294967296 ^ a.length ≤ 4294967296 ^ max a.length b.length := Nat.pow_le_pow_right (by omega) (by omega)
      have h4 : 4294967296 ^ b.length ≤ 4294967296 ^ max a.length b.length := Nat.pow_le_pow_right (by omega) (by omega)
      have h5 : i = max a.length b.length + 1 := by omega
      rw [h5, Nat.pow_succ] at hv
      cases c with
      | zero => rfl
      | succ c =>
        exfalso
        have : 4294967296 ^ max a.length b.length * 4294967296 * 1 ≤ 4294967296 ^ max a.length b.length * 4294967296 * (c + 1) := Nat.mul_le_mul_left _ (by omega)
        omega
    subst hc0
    exact ⟨by omega, hQ _ _ _ (by omega) (by simp) (by simp; omega) lo (by omega) (by omega)⟩
end Go.Proofs.YtdaoblhmnafllaaDoor
