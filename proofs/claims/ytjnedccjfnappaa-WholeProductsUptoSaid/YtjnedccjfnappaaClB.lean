/- The laws of layer 1, by value: products. -/
import Derived.Test.YtjnedccjfnappaaClA
import Derived.Test.YtjnedccjfnappaaCtI
set_option linter.unusedVariables false
set_option linter.unusedSimpArgs false
namespace Go.Proofs.Ytjnedccjfnappaa
open Go.Proofs

theorem prod_len {a b : List Nat} {z : Int} (la : Lim a) (lb : Lim b) (h : z.natAbs = val a * val b) : (dig z.natAbs).length ≤ a.length + b.length := by
  apply dig_len
  rw [h, Nat.pow_add]
  exact Nat.mul_lt_mul'' (val_lt la) (val_lt lb)
theorem mul_small {a b : Nat} (ha : a ≤ 1048576) (hb : b ≤ 1048576) : a * b ≤ 1099511627776 := Nat.mul_le_mul ha hb

theorem WholeProducts_call {n : Nat} (hn : 0 < n) (na nb : Bool) (ia ib : Sid) (hia : ia.f < n) (hib : ib.f < n) (a b : List Nat) (ha : a.length ≤ 1048576) (hb : b.length ≤ 1048576) (la : Lim a) (lb : Lim b) {Q : PV → Nat → List Nat → Prop}
    (hQ : ∀ n' D, n ≤ n' → (∀ x, x ∈ D → n ≤ x) → Q (.bool true) n' D) : PCall Try.prog 5 [W na ia a, W nb ib b] n Q := by
  refine of5 hn ?_
  obtain ⟨ab, hab⟩ : ∃ ab, ab = a.length * b.length := ⟨_, rfl⟩
  have habl := mul_small ha hb
  have habi : (a.length : Int) * (b.length : Int) = (ab : Int) := by rw [hab]; simp
  rw [← hab] at habl
  simp (disch := omega) [c5]
  refine CallK.of (by simp) (Light_call hn na nb ia ib a b (by omega) (by omega) ?_)
  by_cases hl : (lightB na nb a b = false ∧ (600 < a.length ∨ 600 < b.length ∨ 80000 < ab))
  · obtain ⟨h0, h1⟩ := hl
    have key : ∀ n', n ≤ n' → Q (.bool true) n' [] := fun n' h => hQ n' [] h (by simp)
    by_cases h2 : 600 < a.length
    · simp (disch := omega) [h0, h2]
      refine CallK.of (by simp) (awake_call hn fun n' h => ?_)
      simpa [h] using key n' h
    · by_cases h3 : 600 < b.length
      · simp (disch := omega) [h0, h2, h3]
        refine CallK.of (by simp) (awake_call hn fun n' h => ?_)
        simpa [h] using key n' h
      · have h4 : 80000 < ab := by omega
        simp (disch := omega) [h0, h2, h3, habi, h4]
        refine CallK.of (by simp) (awake_call hn fun n' h => ?_)
        simpa [h] using key n' h
  · have hx : lightB na nb a b = true ∨ (lightB na nb a b = false ∧ ¬ 600 < a.length ∧ ¬ 600 < b.length ∧ ¬ 80000 < ab) := by
      cases hb : lightB na nb a b
      · right; refine ⟨rfl, ?_⟩; simp [hb] at hl; omega
      · left; rfl
    rcases hx with hx | ⟨hx, hx1, hx2, hx3⟩
    all_goals
      first
        | (simp (disch := omega) [hx, hx1, hx2, habi, hx3])
        | (simp (disch := omega) [hx])
      refine CallK.of (by simp) (copied_call hn na ia a (by omega) fun ip n1 h1 h1a h1b => ?_)
      simp (disch := omega) [h1]
      refine CallK.of (by simp) (copied_call (by omega) nb ib b (by omega) fun iq n2 h2 h2a h2b => ?_)
      simp (disch := omega) [h1, h2]
      refine CallK.of (by simp) (mul_call (by omega) na nb ip iq (by omega) (by omega) a b (by omega) (by omega) la lb fun is n3 sn sl se h3 h3s hs => ?_)
      simp (disch := omega) [h1, h2, h3]
      refine CallK.of (by simp) (Same_call (by omega) na na ip ia a a (by omega) ?_)
      simp (disch := omega) [h1, h2, h3]
      refine CallK.of (by simp) (Same_call (by omega) nb nb iq ib b b (by omega) ?_)
      simp (disch := omega) [h1, h2, h3]
      have fs : ¬ is.f = ip.f ∧ ¬ is.f = iq.f ∧ is.f < n3 := by rcases h3s with e | e <;> first | (subst e; simp; omega) | omega
      have fa : ¬ ia.f = ip.f ∧ ¬ ia.f = iq.f ∧ ¬ ib.f = ip.f ∧ ¬ ib.f = iq.f ∧ ¬ iq.f = ip.f := by omega
      refine CallK.of (by simp) (spoil_call2 (by omega) na ip (by omega) a (by omega) ?_)
      simp (disch := omega) [h1, h2, h3, fs, fa]
      refine ⟨by omega, ?_⟩
      refine CallK.of (by simp) (spoil_call2 (by omega) nb iq (by omega) b (by omega) ?_)
      simp (disch := omega) [h1, h2, h3, fs, fa]
      refine ⟨by omega, ?_⟩
      have hlz := prod_len la lb (numW_mul na nb a b)
      refine CallK.of (by simp) (refMul_call (by omega) na nb ia ib a b (by omega) (by omega) la lb _ rfl fun i5 n5 h5 h5s => ?_)
      simp (disch := omega) [h1, h2, h3, h5, fs, fa]
      refine CallK.of (by simp) (form_call (by omega) na nb ia ib a b (by omega) (by omega) ?_)
      simp (disch := omega) [h1, h2, h3, h5, fs, fa]
      refine CallK.of (by simp) (told_true (by omega) sn is i5 sl se _ hs (by simp) (by omega) ?_)
      simp (disch := omega) [h1, h2, h3, h5, fs, fa]
      refine CallK.of (by simp) (awake_call (by omega) fun n7 h7 => ?_)
      simp (disch := omega) [h1, h2, h3, h5, h7, fs, fa]
      exact ⟨by omega, hQ _ _ (by omega) (by simp; omega)⟩
end Go.Proofs.Ytjnedccjfnappaa
