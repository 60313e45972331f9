/- The laws of layer 1, by value: sums. -/
import Derived.Test.YtjnedccjfnappaaCtP
set_option linter.unusedVariables false
set_option linter.unusedSimpArgs false
namespace Go.Proofs.Ytjnedccjfnappaa
open Go.Proofs

theorem WholeSums_call {n : Nat} (hn : 0 < n) (na nb : Bool) (ia ib : Sid) (hia : ia.f < n) (hib : ib.f < n) (a b : List Nat) (ha : a.length < 35184372088000) (hb : b.length < 35184372088000) (la : Lim a) (lb : Lim b) {Q : PV → Nat → List Nat → Prop}
    (hQ : ∀ n' D, n ≤ n' → (∀ x, x ∈ D → n ≤ x) → Q (.bool true) n' D) : PCall Try.prog 4 [W na ia a, W nb ib b] n Q := by
  refine of4 hn ?_
  simp (disch := omega) [c4]
  refine CallK.of (by simp) (copied_call hn na ia a (by omega) fun ip n1 h1 h1a h1b => ?_)
  simp (disch := omega) [h1]
  refine CallK.of (by simp) (copied_call (by omega) nb ib b (by omega) fun iq n2 h2 h2a h2b => ?_)
  simp (disch := omega) [h1, h2]
  refine CallK.of (by simp) (Add_any (by omega) na nb ip iq a b (by omega) (by omega) la lb fun is n3 sn sl se h3 h3s hs => ?_)
  simp (disch := omega) [h1, h2, h3]
  refine CallK.of (by simp) (Sub_any (by omega) na nb ip iq a b (by omega) (by omega) la lb fun id n4 dn dl de h4 h4s hd => ?_)
  simp (disch := omega) [h1, h2, h3, h4]
  refine CallK.of (by simp) (Same_call (by omega) na na ip ia a a (by omega) ?_)
  simp (disch := omega) [h1, h2, h3, h4]
  refine CallK.of (by simp) (Same_call (by omega) nb nb iq ib b b (by omega) ?_)
  simp (disch := omega) [h1, h2, h3, h4]
  have fs : ¬ is.f = ip.f ∧ ¬ is.f = iq.f ∧ is.f < n4 := by rcases h3s with e | e <;> first | (subst e; simp; omega) | omega
  have fd : ¬ id.f = ip.f ∧ ¬ id.f = iq.f := by rcases h4s with e | e <;> first | (subst e; simp; omega) | omega
  have fa : ¬ ia.f = ip.f ∧ ¬ ia.f = iq.f ∧ ¬ ib.f = ip.f ∧ ¬ ib.f = iq.f ∧ ¬ iq.f = ip.f := by omega
  refine CallK.of (by simp) (spoil_call2 (by omega) na ip (by omega) a (by omega) ?_)
  simp (disch := omega) [h1, h2, h3, h4, fs, fd, fa]
  refine ⟨by omega, ?_⟩
  refine CallK.of (by simp) (spoil_call2 (by omega) nb iq (by omega) b (by omega) ?_)
  simp (disch := omega) [h1, h2, h3, h4, fs, fd, fa]
  refine ⟨by omega, ?_⟩
  have hlz := sum_len (na := na) (nb := nb) la lb (z := numW na a + numW nb b) (k := 35184372087999) (by have := numW_abs na a; have := numW_abs nb b; omega) (by omega) (by omega)
  have hly := sum_len (na := na) (nb := nb) la lb (z := numW na a - numW nb b) (k := 35184372087999) (by have := numW_abs na a; have := numW_abs nb b; omega) (by omega) (by omega)
  have hls := ansIs_len hs
  have hld := ansIs_len hd
  refine CallK.of (by simp) (refAdd_call (by omega) na nb ia ib a b (by omega) (by omega) la lb _ rfl fun i5 n5 h5 h5s => ?_)
  simp (disch := omega) [h1, h2, h3, h4, h5, fs, fd, fa]
  refine CallK.of (by simp) (form_call (by omega) na nb ia ib a b (by omega) (by omega) ?_)
  simp (disch := omega) [h1, h2, h3, h4, h5, fs, fd, fa]
  refine CallK.of (by simp) (told_true (by omega) sn is i5 sl se _ hs (by simp) (by omega) ?_)
  simp (disch := omega) [h1, h2, h3, h4, h5, fs, fd, fa]
  refine CallK.of (by simp) (refSub_call (by omega) na nb ia ib a b (by omega) (by omega) la lb _ rfl fun i6 n6 h6 h6s => ?_)
  simp (disch := omega) [h1, h2, h3, h4, h5, h6, fs, fd, fa]
  refine CallK.of (by simp) (form_call (by omega) na nb ia ib a b (by omega) (by omega) ?_)
  simp (disch := omega) [h1, h2, h3, h4, h5, h6, fs, fd, fa]
  refine CallK.of (by simp) (told_true (by omega) dn id i6 dl de _ hd (by simp) (by omega) ?_)
  simp (disch := omega) [h1, h2, h3, h4, h5, h6, fs, fd, fa]
  refine CallK.of (by simp) (awake_call (by omega) fun n7 h7 => ?_)
  simp (disch := omega) [h1, h2, h3, h4, h5, h6, h7, fs, fd, fa]
  exact ⟨by omega, hQ _ _ (by omega) (by simp; omega)⟩
end Go.Proofs.Ytjnedccjfnappaa
