/- What the functions of layer 1 do, by value: the program's own, part three. -/
import Derived.Test.YtcdkgeeookcoeaaCtB
set_option linter.unusedVariables false
set_option linter.unusedSimpArgs false
namespace Go.Proofs.Ytcdkgeeookcoeaa
open Go.Proofs

/-- Before a round of down's loop. -/
def downI (n : Nat) (ia ib : Sid) (a b : List Nat) (k : Nat) (s : St) : Prop :=
  ∃ (i c g nx : Nat) (out : List Nat), i + k = a.length ∧ At s 44 [] nx [(0, .sl ia 1 (u32s a)), (1, .sl ib 1 (u32s b)), (5, .sl ⟨n, g, 0⟩ 1 (u32s out)), (6, .int .u32 c), (15, .int .i64 a.length), (16, .int .i64 i)] ∧ tipOf s.tips g n = some i ∧ 0 < g ∧ g < nx ∧ n < nx ∧ out.length = i ∧ Lim out ∧ c ≤ 1 ∧ val out + val (b.take i) = val (a.take i) + 4294967296 ^ i * c
theorem diff_step {v vb p t d c x y va : Nat} (e : t + y + c = x + 4294967296 * d) (h : v + vb = va + p * c) : v + p * t + (vb + p * y) = va + p * x + p * 4294967296 * d := by
  have := congrArg (p * ·) e
  simp only [Nat.mul_add] at this
  rw [← Nat.mul_assoc p 4294967296] at this
  omega
theorem down_loop {n : Nat} (hn : 0 < n) (ia ib : Sid) (a b : List Nat) (ha : a.length < 35184372088800) (hb : b.length < 35184372088800) (la : Lim a) (lb : Lim b) {Q : PV → Nat → List Nat → Prop}
    (hQ : ∀ (i : Sid) (l : List Nat) (n' c : Nat), n ≤ n' → n ≤ i.f → i.f < n' → Lim l → val l + val (b.take a.length) = val a + 4294967296 ^ a.length * c → l.length = a.length → Q (.sl i 1 (u32s l)) n' []) (s : St) (k : Nat) (h : downI n ia ib a b k s) :
    GO Try.prog (.loop c61L0) (PExit.inBlock 0 (PExit.then (GO Try.prog c61R0 (fin Try.prog [.tmp 4] n Q)) (fin Try.prog [.tmp 4] n Q))) s := by
  refine GO_loopN (downI n ia ib a b) k h ?_
  clear h k s
  rintro k s ⟨i, c, g, nx, out, hi, ⟨e1, e2, e3, e4, e5⟩, ht, hg, hgx, hnx, hol, lo, hc, hv⟩
  simp at e5
  obtain ⟨e5, e6, e7, e8, e9, e10⟩ := e5
  by_cases hk : i < a.length
  · have hx := la.get hk
    by_cases hy : i < b.length
    · have hyl := lb.get hy
      simp (disch := omega) [c61L0, e1, e2, e3, e4, e5, e6, e7, e8, e9, e10, hk, hy]
      refine CallK.of (by simp) (Sub32_call (by omega) _ _ _ hx hyl hc fun t d ht1 hd1 he1 => ?_)
      simp (disch := omega) [e1, e2, e3, e4, e5, e6, e7, e8, e9, e10, hk, hy, ht, hol]
      refine ⟨by omega, k - 1, by omega, i + 1, d, nx + 1, nx + 2, out ++ [t], by omega, ?_, ?_, by omega, by omega, by omega, by simp [hol], lo.append (.one ht1), hd1, ?_⟩
      · simp [At, e1, e2, e3, e4, e5, e6, e7, e8, e9, e10]
      · simp
      · rw [val_append, val_take_succ, val_take_succ, hol, Nat.pow_succ]
        simpa [List.getD, hk, hy] using diff_step he1 hv
    · simp (disch := omega) [c61L0, e1, e2, e3, e4, e5, e6, e7, e8, e9, e10, hk, hy]
      refine CallK.of (by simp) (Sub32_call (by omega) _ 0 _ hx (by omega) hc fun t d ht1 hd1 he1 => ?_)
      simp (disch := omega) [e1, e2, e3, e4, e5, e6, e7, e8, e9, e10, hk, hy, ht, hol]
      refine ⟨by omega, k - 1, by omega, i + 1, d, nx + 1, nx + 2, out ++ [t], by omega, ?_, ?_, by omega, by omega, by omega, by simp [hol], lo.append (.one ht1), hd1, ?_⟩
      · simp [At, e1, e2, e3, e4, e5, e6, e7, e8, e9, e10]
      · simp
      · rw [val_append, val_take_succ, val_take_succ, hol, Nat.pow_succ]
        simpa [List.getD, hk, hy] using diff_step he1 hv
  · have : i = a.length := by omega
    subst this
    simp (disch := omega) [c61L0, c61R0, e1, e2, e3, e4, e5, e6, e7, e8, e9, e10, hk, ht, hol]
    refine ⟨by omega, ?_⟩
    refine hQ _ _ _ c (by omega) (by simp) (by simp; omega) lo ?_ hol
    rw [List.take_of_length_le (l := a) (by omega)] at hv
    exact hv

theorem down_call {n : Nat} (hn : 0 < n) (ia ib : Sid) (a b : List Nat) (ha : a.length < 35184372088800) (hb : b.length < 35184372088800) (la : Lim a) (lb : Lim b) {Q : PV → Nat → List Nat → Prop}
    (hQ : ∀ (i : Sid) (l : List Nat) (n' : Nat), n ≤ n' → n ≤ i.f → i.f < n' → Lim l → (b.length ≤ a.length → val b ≤ val a → val l = val a - val b) → l.length = a.length → Q (.sl i 1 (u32s l)) n' []) : PCall Try.prog 61 [.sl ia 1 (u32s a), .sl ib 1 (u32s b)] n Q := by
  refine of61 hn ?_
  simp (disch := omega) [c61]
  refine ⟨by omega, ?_⟩
  refine down_loop hn ia ib a b ha hb la lb (fun i l n' c h1 h2 h3 h4 h5 h6 => hQ i l n' h1 h2 h3 h4 (fun hl hv => ?_) h6) _ a.length ?_
  · rw [val_take_all hl] at h5
    have hb := val_lt h4
    rw [h6] at hb
    cases c with
    | zero => omega
    | succ c => rw [Nat.mul_add] at h5; omega
  · exact ⟨0, 0, n, n + 1, [], by omega, by simp [At], by simp, by omega, by omega, by omega, rfl, .nil, by omega, by simp⟩

/-- Which of limbs are more. -/
def sizeL (a b : List Nat) : Int := if a.length < b.length then -1 else if b.length < a.length then 1 else if val a < val b then -1 else if val b < val a then 1 else 0
def sizeI (n : Nat) (ia ib : Sid) (a b : List Nat) (k : Nat) (s : St) : Prop :=
  k ≤ a.length ∧ At s 43 [] n [(0, .sl ia 1 (u32s a)), (1, .sl ib 1 (u32s b)), (5, .int .i64 ((k : Int) - 1))] ∧ a.drop k = b.drop k
theorem size_call {n : Nat} (hn : 0 < n) (ia ib : Sid) (a b : List Nat) (ha : a.length < 35184372088800) (hb : b.length < 35184372088800) (la : Lim a) (lb : Lim b) {Q : PV → Nat → List Nat → Prop}
    (hQ : Q (.int .i64 (sizeL a b)) n []) : PCall Try.prog 60 [.sl ia 1 (u32s a), .sl ib 1 (u32s b)] n Q := by
  refine of60 hn ?_
  by_cases h1 : a.length < b.length
  · simp [sizeL, h1] at hQ
    simpa [c60, h1] using hQ
  · by_cases h2 : b.length < a.length
    · simp [sizeL, h1, h2] at hQ
      simpa [c60, h1, h2] using hQ
    · have h3 : a.length = b.length := by omega
      simp [sizeL, h1, h2] at hQ
      simp (disch := omega) [c60, h1, h2]
      refine GO_loopN (sizeI n ia ib a b) a.length ⟨by omega, ?_, ?_⟩ ?_
      · simp [At]
      · rw [List.drop_eq_nil_of_le (by omega), List.drop_eq_nil_of_le (by omega)]
      · rintro k s ⟨hk, ⟨e1, e2, e3, e4, e5⟩, hd⟩
        simp at e5
        obtain ⟨e5, e6, e7⟩ := e5
        cases k with
        | zero =>
          have : a = b := by simpa using hd
          subst this
          simp at hQ e7
          simpa [c60L0, c60R0, e1, e2, e3, e4, e5, e6, e7] using hQ
        | succ j =>
          have hja : j < a.length := by omega
          have hjb : j < b.length := by omega
          have e7 : s.slots 5 = .int .i64 (j : Int) := by rw [e7]; congr 1; omega
          rcases Nat.lt_trichotomy a[j] b[j] with hx | hx | hx
          · have hlt := val_lt_top la hja hjb hd hx
            have hne : ¬ a[j] = b[j] := by omega
            simp [hlt] at hQ
            simpa (disch := omega) [c60L0, c60R0, e1, e2, e3, e4, e5, e6, e7, hja, hjb, hx, hne] using hQ
          · simp (disch := omega) [c60L0, c60R0, e1, e2, e3, e4, e5, e6, e7, hja, hjb, hx]
            refine ⟨j, by omega, by omega, by simp [At, e1, e2, e3, e4, e5, e6, e7], ?_⟩
            rw [List.drop_eq_getElem_cons hja, List.drop_eq_getElem_cons hjb, hx, hd]
          · have hlt := val_lt_top lb hjb hja hd.symm hx
            have hne : ¬ a[j] = b[j] := by omega
            have hnl : ¬ a[j] < b[j] := by omega
            have hnv : ¬ val a < val b := by omega
            simp [hlt, hnv] at hQ
            simpa (disch := omega) [c60L0, c60R0, e1, e2, e3, e4, e5, e6, e7, hja, hjb, hnl, hne] using hQ
end Go.Proofs.Ytcdkgeeookcoeaa
