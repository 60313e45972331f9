/- The laws of layer 1, by value: back again. -/
import Derived.Test.YtjnedccjfnappaaCtO
set_option linter.unusedVariables false
set_option linter.unusedSimpArgs false
namespace Go.Proofs.Ytjnedccjfnappaa
open Go.Proofs

theorem Shift_Z {n : Nat} (hn : 0 < n) (x z b : Int) (ia : Sid) (hx : sz x 512) (hz : shZ x b = z) (hzs : sz z 512) (hb : -16384 ≤ b ∧ b ≤ 16384) {Q : PV → Nat → List Nat → Prop}
    (hQ : ∀ (i : Sid) (n' : Nat), n ≤ n' → newSid n n' i → Q (.tup [W (decide (z < 0)) i (dig z.natAbs), .int .i64 0]) n' []) : PCall Try.prog 33 [W (decide (x < 0)) ia (dig x.natAbs), .int .i64 b] n Q := by
  have h1 := hx.len
  have h2 := rightW_Z h1
  refine Shift_call hn _ ia _ (by omega) (Lim.dig _) b (by omega) (fun h => by rw [h2] at h; cases h) (fun _ h => by omega) (fun _ _ i n' k1 k2 => ?_)
  rw [numW_dig, hz]
  obtain ⟨e1, e2, e3⟩ := ansIs_Z (ansIs_ans z) hzs.len
  rw [e1, e2, e3]
  exact hQ i n' k1 k2
theorem shZ_back (x : Int) (m : Nat) : shZ (shZ x m) (-(m : Int)) = x := by
  have h0 : shZ x m = x * 2 ^ m := by unfold shZ; rw [if_pos (by omega), Int.toNat_natCast]
  by_cases hm : m = 0
  · subst hm; simp [shZ]
  · rw [h0]
    unfold shZ
    rw [if_neg (by omega), Int.neg_neg, Int.toNat_natCast]
    exact Int.mul_tdiv_cancel _ (by have := two_pow_pos' m; omega)

theorem WholeBack_call {n : Nat} (hn : 0 < n) (na nb : Bool) (ia ib : Sid) (hia : ia.f < n) (hib : ib.f < n) (a b : List Nat) (ha : a.length < 35184372088000) (hb : b.length < 35184372088000) (la : Lim a) (lb : Lim b) (c : Int) (hc : -9223372036854775808 ≤ c ∧ c < 9223372036854775808) {Q : PV → Nat → List Nat → Prop}
    (hQ : ∀ n' D, n ≤ n' → (∀ x, x ∈ D → n ≤ x) → Q (.bool true) n' D) : PCall Try.prog 10 [W na ia a, W nb ib b, .int .i64 c] n Q := by
  have hQ : ∀ n', n ≤ n' → Q (.bool true) n' [] := fun n' h => hQ n' [] h (by simp)
  obtain ⟨m, hm⟩ : ∃ m : Nat, (m : Int) = (IntKind.u64.wrap c).tmod 2000 := ⟨((IntKind.u64.wrap c).tmod 2000).toNat, by
    rw [wrap_u64_eq, Int.tmod_eq_emod_of_nonneg (by omega)]; omega⟩
  have hml : m < 2000 := by
    rw [wrap_u64_eq, Int.tmod_eq_emod_of_nonneg (by omega)] at hm; omega
  have hw : IntKind.i64.wrap (m : Int) = (m : Int) := wrap_i64_is rfl (by omega)
  have hw2 : IntKind.i64.wrap (-(m : Int)) = -(m : Int) := wrap_i64_is (by omega) (by omega)
  refine of10 hn ?_
  simp (disch := omega) [-wrap_u64_at, -wrap_i64_at, c10, ← hm, hw]
  refine CallK.of (by simp) (form_call hn na nb ia ib a b (by omega) (by omega) ?_)
  by_cases h1 : rightW na a = true
  · by_cases h2 : rightW nb b = true
    · by_cases k1 : 40 < a.length
      · simp (disch := omega) [h1, h2, k1]
        refine CallK.of (by simp) (awake_call (by omega) fun n2 k2 => ?_)
        simpa [show n ≤ n2 by omega] using hQ n2 (by omega)
      by_cases k2 : 40 < b.length
      · simp (disch := omega) [h1, h2, k1, k2]
        refine CallK.of (by simp) (awake_call (by omega) fun n2 k2 => ?_)
        simpa [show n ≤ n2 by omega] using hQ n2 (by omega)
      simp (disch := omega) [h1, h2, k1, k2]
      obtain ⟨x, rfl, rfl⟩ := right_Z h1 la
      obtain ⟨y, rfl, rfl⟩ := right_Z h2 lb
      have sx : sz x 40 := (sz_dig x).mono (by omega)
      have sy : sz y 40 := (sz_dig y).mono (by omega)
      obtain ⟨z, hz⟩ : ∃ z, shZ x m = z := ⟨_, rfl⟩
      have hzb : shZ z (-(m : Int)) = x := by rw [← hz]; exact shZ_back x m
      have szz : sz z 512 := (shZ_sz (j := 63) hz sx (by omega)).mono (by omega)
      obtain ⟨d, hd⟩ : ∃ d, x - y = d := ⟨_, rfl⟩
      have sd : sz d 41 := hd ▸ sx.sub sy
      clear ha hb la lb h1 h2
      refine CallK.of (by simp) (Shift_Z (by omega) x z m ia (sx.mono (by omega)) hz szz (by omega) fun i1 n1 g1 d1 => ?_)
      simp (disch := omega) [-wrap_i64_at, g1, hw2]
      refine CallK.of (by simp) (Shift_Z (by omega) z x (-(m : Int)) i1 szz hzb (sx.mono (by omega)) (by omega) fun i2 n2 g2 d2 => ?_)
      simp (disch := omega) [g1, g2]
      refine CallK.of (by simp) (Sub_Z (by omega) x y d ia ib 40 sx sy (by omega) hd fun i3 n3 g3 d3 => ?_)
      simp (disch := omega) [g1, g2, g3]
      refine CallK.of (by simp) (Add_Z (by omega) d y x i3 ib 41 sd (sy.mono (by omega)) (by omega) (by omega) fun i4 n4 g4 d4 => ?_)
      simp (disch := omega) [g1, g2, g3, g4]
      have l1 := sx.len
      refine CallK.of (by simp) (Same_call (by omega) _ _ i2 ia _ _ (by omega) ?_)
      simp (disch := omega) [g1, g2, g3, g4]
      refine CallK.of (by simp) (Same_call (by omega) _ _ i4 ia _ _ (by omega) ?_)
      simp (disch := omega) [g1, g2, g3, g4]
      refine CallK.of (by simp) (awake_call (by omega) fun n5 g5 => ?_)
      simpa [show n ≤ n5 by omega] using hQ n5 (by omega)
    · simp (disch := omega) [h1, h2]
      refine CallK.of (by simp) (awake_call (by omega) fun n2 k2 => ?_)
      simpa [show n ≤ n2 by omega] using hQ n2 (by omega)
  · simp (disch := omega) [h1]
    refine CallK.of (by simp) (awake_call (by omega) fun n2 k2 => ?_)
    simpa [show n ≤ n2 by omega] using hQ n2 (by omega)
end Go.Proofs.Ytjnedccjfnappaa
