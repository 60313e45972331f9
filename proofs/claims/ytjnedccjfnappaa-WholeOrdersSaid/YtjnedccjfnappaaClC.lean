/- The laws of layer 1, by value: which of two is more, how many bits. -/
import Derived.Test.YtjnedccjfnappaaCtK
set_option linter.unusedVariables false
set_option linter.unusedSimpArgs false
namespace Go.Proofs.Ytjnedccjfnappaa
open Go.Proofs

theorem WholeOrders_call {n : Nat} (hn : 0 < n) (na nb : Bool) (ia ib : Sid) (hia : ia.f < n) (hib : ib.f < n) (a b : List Nat) (ha : a.length < 35184372088000) (hb : b.length < 35184372088000) (la : Lim a) (lb : Lim b) {Q : PV → Nat → List Nat → Prop}
    (hQ : ∀ n' D, n ≤ n' → (∀ x, x ∈ D → n ≤ x) → Q (.bool true) n' D) : PCall Try.prog 8 [W na ia a, W nb ib b] n Q := by
  have hQ : ∀ n', n ≤ n' → Q (.bool true) n' [] := fun n' h => hQ n' [] h (by simp)
  refine of8 hn ?_
  simp (disch := omega) [c8]
  refine CallK.of (by simp) (Compare_call hn na nb ia ib a b (by omega) (by omega) la lb ?_)
  by_cases h1 : rightW na a = true
  · by_cases h2 : rightW nb b = true
    · simp (disch := omega) [h1, h2]
      refine CallK.of (by simp) (form_call hn na nb ia ib a b (by omega) (by omega) ?_)
      simp (disch := omega) [h1, h2]
      refine CallK.of (by simp) (RefCompare_call hn na nb ia ib a b (by omega) (by omega) la lb fun n1 k1 => ?_)
      simp (disch := omega) [k1]
      refine CallK.of (by simp) (Len_call (by omega) na ia a (by omega) la ?_)
      simp (disch := omega) [k1]
      refine CallK.of (by simp) (RefLen_call (by omega) na ia a (by omega) la ?_)
      simp (disch := omega) [k1]
      refine CallK.of (by simp) (awake_call (by omega) fun n2 k2 => ?_)
      simpa [show n ≤ n2 by omega] using hQ n2 (by omega)
    · simp (disch := omega) [h1, h2]
      refine CallK.of (by simp) (form_call hn na nb ia ib a b (by omega) (by omega) ?_)
      simp (disch := omega) [h1, h2]
      refine CallK.of (by simp) (awake_call (by omega) fun n2 k2 => ?_)
      simpa [show n ≤ n2 by omega] using hQ n2 (by omega)
  · simp (disch := omega) [h1]
    refine CallK.of (by simp) (form_call hn na nb ia ib a b (by omega) (by omega) ?_)
    simp (disch := omega) [h1]
    refine CallK.of (by simp) (awake_call (by omega) fun n2 k2 => ?_)
    simpa [show n ≤ n2 by omega] using hQ n2 (by omega)
end Go.Proofs.Ytjnedccjfnappaa
