/- What the functions of layer 1 do, by value: the reference's sums and differences, part two. -/
import Derived.Test.YtdaoblhmnafllaaDoorCtE
set_option linter.unusedVariables false
set_option linter.unusedSimpArgs false
namespace Go.Proofs.YtdaoblhmnafllaaDoor
open Go.Proofs

def minusI (n : Nat) (ia ib : Sid) (a b : List Nat) (k : Nat) (s : St) : Prop :=
  ∃ (i c g nx : Nat) (out : List Nat), i + k = a.length ∧ At s 36 [] nx [(0, .sl ia 1 (u32s a)), (1, .sl ib 1 (u32s b)), (5, .sl ⟨n, g, 0⟩ 1 (u32s out)), (6, .int .u64 c), (7, .int .i64 i)] ∧ tipOf s.tips g n = some i ∧ 0 < g ∧ g < nx ∧ n < nx ∧ out.length = i ∧ Lim out ∧ c ≤ 1 ∧ val out + val (b.take i) = val (a.take i) + 4294967296 ^ i * c
theorem minus_call {n : Nat} (hn : 0 < n) (ia ib : Sid) (a b : List Nat) (ha : a.length < 35184372088800) (hb : b.length < 35184372088800) (la : Lim a) (lb : Lim b) {Q : PV → Nat → List Nat → Prop}
    (hQ : ∀ (i : Sid) (l : List Nat) (n' : Nat), n ≤ n' → n ≤ i.f → i.f < n' → Lim l → (val (b.take a.length) ≤ val a → val l = val a - val (b.take a.length)) → l.length = a.length → Q (.sl i 1 (u32s l)) n' []) : PCall Tryd.prog 84 [.sl ia 1 (u32s a), .sl ib 1 (u32s b)] n Q := by
  refine of84 hn ?_
  simp (disch := omega) [c84]
  refine GO_loopN (minusI n ia ib a b) a.length ⟨0, 0, n, n + 1, [], by omega, by simp [At], by simp, by omega, by omega, by omega, rfl, .nil, by omega, by simp⟩ ?_
  rintro k s ⟨i, c, g, nx, out, hi, ⟨e1, e2, e3, e4, e5⟩, ht, hg, hgx, hnx, hol, lo, hc, hv⟩
  simp at e5
  obtain ⟨e5, e6, e7, e8, e9⟩ := e5
  by_cases hk : i < a.length
  · have hx := la.getD i
    have hy := lb.getD i
    obtain ⟨t, ht0⟩ : ∃ t, t = (4294967296 + a.getD i 0 - b.getD i 0 - c) % 4294967296 := ⟨_, rfl⟩
    obtain ⟨q, hq0⟩ : ∃ q, q = (4294967296 + a.getD i 0 - b.getD i 0 - c) / 4294967296 := ⟨_, rfl⟩
    obtain ⟨d, hd0⟩ : ∃ d, d = 1 - q := ⟨_, rfl⟩
    have hst : t + b.getD i 0 + c = a.getD i 0 + 4294967296 * d := by omega
    have hd : d ≤ 1 := by omega
    have ht1 : t < 4294967296 := by omega
    generalize hxx : a.getD i 0 = x at *
    generalize hyy : b.getD i 0 = y at *
    have hrem : (4294967296 + (x : Int) - y - c).tmod 4294967296 = (t : Int) := by rw [Int.tmod_eq_emod_of_nonneg (by omega)]; omega
    have hquo : (4294967296 + (x : Int) - y - c).tdiv 4294967296 = (q : Int) := by rw [Int.tdiv_eq_ediv_of_nonneg (by omega)]; omega
    have hsub : IntKind.u64.wrap (1 - (q : Int)) = (d : Int) := by rw [wrap_u64_at _ (by omega)]; omega
    simp (disch := omega) [c84L0, e1, e2, e3, e4, e5, e6, e7, e8, e9, hk]
    refine CallK.of (by simp) (limb_call (by omega) ia a ha i la ?_)
    rw [hxx]
    simp (disch := omega) [e1, e2, e3, e4, e5, e6, e7, e8, e9, hk]
    refine CallK.of (by simp) (limb_call (by omega) ib b hb i lb ?_)
    rw [hyy]
    simp (disch := omega) [e1, e2, e3, e4, e5, e6, e7, e8, e9, hk, hrem, hquo, hsub, ht, hol]
    refine ⟨by omega, k - 1, by omega, i + 1, d, nx + 1, nx + 2, out ++ [t], by omega, ?_, ?_, by omega, by omega, by omega, by simp [hol], lo.append (.one ht1), hd, ?_⟩
    · simp [At, e1, e2, e3, e4, e5, e6, e7, e8, e9]
    · simp
    · rw [val_append, val_take_succ, val_take_succ, hol, Nat.pow_succ, hxx, hyy]
      simpa using diff_step hst hv
  · simp (disch := omega) [c84L0, c84R0, e1, e2, e3, e4, e5, e6, e7, e8, e9, hk]
    have hia : i = a.length := by omega
    rw [List.take_of_length_le (l := a) (by omega), hia] at hv
    refine ⟨by omega, hQ _ _ _ (by omega) (by simp) (by simp; omega) lo (fun hv2 => ?_) (by omega)⟩
    have hb := val_lt lo
    rw [show out.length = a.length by omega] at hb
    cases c with
    | zero => omega
    | succ c => rw [Nat.mul_add] at hv; omega

theorem val_lt_topD {a b : List Nat} {j : Nat} (la : Lim a) (hd : val (a.drop (j + 1)) = val (b.drop (j + 1))) (hx : a.getD j 0 < b.getD j 0) : val a < val b := by
  have key : ∀ l : List Nat, val (l.drop j) = l.getD j 0 + 4294967296 * val (l.drop (j + 1)) := by
    intro l
    by_cases h : j < l.length
    · rw [List.drop_eq_getElem_cons h, val_cons]; simp [List.getD, h]
    · rw [List.drop_eq_nil_of_le (by omega), List.drop_eq_nil_of_le (by omega)]; simp [List.getD, h]
  rw [val_split a j, val_split b j, key, key, hd]
  refine val_lt_of ?_ (by omega)
  have h1 := val_lt (la.take j)
  have h2 : 4294967296 ^ (a.take j).length ≤ 4294967296 ^ j := Nat.pow_le_pow_right (by omega) (by rw [List.length_take]; omega)
  omega
/-- Which of limbs are worth more. -/
def moreL (a b : List Nat) : Int := if val a < val b then -1 else if val b < val a then 1 else 0
theorem More_call {n : Nat} (hn : 0 < n) (ia ib : Sid) (a b : List Nat) (ha : a.length < 35184372088800) (hb : b.length < 35184372088800) (la : Lim a) (lb : Lim b) {Q : PV → Nat → List Nat → Prop}
    (hQ : Q (.int .i64 (moreL a b)) n []) : PCall Tryd.prog 83 [.sl ia 1 (u32s a), .sl ib 1 (u32s b)] n Q := by
  refine of83 hn ?_
  simp (disch := omega) [c83]
  refine GO_loopN (fun k s => k ≤ max a.length b.length + 1 ∧ At s 29 [] n [(0, .sl ia 1 (u32s a)), (1, .sl ib 1 (u32s b)), (5, .int .i64 ((k : Int) - 1))] ∧ val (a.drop k) = val (b.drop k)) (max a.length b.length + 1) ⟨by omega, ?_, ?_⟩ ?_
  · simp [At]
  · rw [List.drop_eq_nil_of_le (by omega), List.drop_eq_nil_of_le (by omega)]
  · rintro k s ⟨hk, ⟨e1, e2, e3, e4, e5⟩, hd⟩
    simp at e5
    obtain ⟨e5, e6, e7⟩ := e5
    cases k with
    | zero =>
      have : val a = val b := by simpa using hd
      simp [moreL, this] at hQ
      simp at e7
      simpa [c83L0, c83R0, e1, e2, e3, e4, e5, e6, e7] using hQ
    | succ j =>
      have e7 : s.slots 5 = .int .i64 (j : Int) := by rw [e7]; congr 1; omega
      rcases Nat.lt_trichotomy (a.getD j 0) (b.getD j 0) with hx | hx | hx
      · have hlt := val_lt_topD la hd hx
        simp [moreL, hlt] at hQ
        simp (disch := omega) [c83L0, c83R0, e1, e2, e3, e4, e5, e6, e7]
        refine CallK.of (by simp) (limb_call (by omega) ia a ha j la ?_)
        generalize a.getD j 0 = x at *
        simp (disch := omega) [e1, e2, e3, e4, e5, e6, e7]
        refine CallK.of (by simp) (limb_call (by omega) ib b hb j lb ?_)
        generalize b.getD j 0 = y at *
        simpa (disch := omega) [e1, e2, e3, e4, e5, e6, e7, hx] using hQ
      · obtain ⟨y, hyy⟩ : ∃ y, b.getD j 0 = y := ⟨_, rfl⟩
        have hyb := lb.getD j
        rw [hyy] at hx hyb
        simp (disch := omega) [c83L0, c83R0, e1, e2, e3, e4, e5, e6, e7]
        refine CallK.of (by simp) (limb_call (by omega) ia a ha j la ?_)
        rw [hx]
        simp (disch := omega) [e1, e2, e3, e4, e5, e6, e7]
        refine CallK.of (by simp) (limb_call (by omega) ib b hb j lb ?_)
        rw [hyy]
        simp (disch := omega) [e1, e2, e3, e4, e5, e6, e7]
        refine CallK.of (by simp) (limb_call (by omega) ia a ha j la ?_)
        rw [hx]
        simp (disch := omega) [e1, e2, e3, e4, e5, e6, e7]
        refine CallK.of (by simp) (limb_call (by omega) ib b hb j lb ?_)
        rw [hyy]
        simp (disch := omega) [e1, e2, e3, e4, e5, e6, e7]
        refine ⟨j, by omega, by omega, by simp [At, e1, e2, e3, e4, e5, e6, e7], ?_⟩
        have key : ∀ l : List Nat, val (l.drop j) = l.getD j 0 + 4294967296 * val (l.drop (j + 1)) := by
          intro l
          by_cases h : j < l.length
          · rw [List.drop_eq_getElem_cons h, val_cons]; simp [List.getD, h]
          · rw [List.drop_eq_nil_of_le (by omega), List.drop_eq_nil_of_le (by omega)]; simp [List.getD, h]
        rw [key, key, hx, hyy, hd]
      · have hlt := val_lt_topD lb hd.symm hx
        have hnl : ¬ val a < val b := by omega
        simp [moreL, hlt, hnl] at hQ
        simp (disch := omega) [c83L0, c83R0, e1, e2, e3, e4, e5, e6, e7]
        refine CallK.of (by simp) (limb_call (by omega) ia a ha j la ?_)
        generalize hxx : a.getD j 0 = x at *
        simp (disch := omega) [e1, e2, e3, e4, e5, e6, e7]
        refine CallK.of (by simp) (limb_call (by omega) ib b hb j lb ?_)
        generalize hyy : b.getD j 0 = y at *
        have hno : ¬ x < y := by omega
        simp (disch := omega) [e1, e2, e3, e4, e5, e6, e7, hno]
        refine CallK.of (by simp) (limb_call (by omega) ia a ha j la ?_)
        rw [hxx]
        simp (disch := omega) [e1, e2, e3, e4, e5, e6, e7]
        refine CallK.of (by simp) (limb_call (by omega) ib b hb j lb ?_)
        rw [hyy]
        simpa (disch := omega) [e1, e2, e3, e4, e5, e6, e7, hx] using hQ
end Go.Proofs.YtdaoblhmnafllaaDoor
