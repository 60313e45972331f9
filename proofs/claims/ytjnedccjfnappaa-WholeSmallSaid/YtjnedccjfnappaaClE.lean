/- The laws of layer 1, by value: small numbers. -/
import Derived.Test.YtjnedccjfnappaaCtM
set_option linter.unusedVariables false
set_option linter.unusedSimpArgs false
namespace Go.Proofs.Ytjnedccjfnappaa
open Go.Proofs

theorem cmpZ_neg (z : Int) : cmpZ z < 0 ↔ z < 0 := by unfold cmpZ; split <;> (try split) <;> omega
theorem cmpZ_pos (z : Int) : 0 < cmpZ z ↔ 0 < z := by unfold cmpZ; split <;> (try split) <;> omega

theorem WholeSmall_call {n : Nat} (hn : 0 < n) (x y : Int) (hx : -9223372036854775808 ≤ x ∧ x < 9223372036854775808) (hy : -9223372036854775808 ≤ y ∧ y < 9223372036854775808) (na : Bool) (ia : Sid) (hia : ia.f < n) (a : List Nat) (ha : a.length < 35184372088000) (la : Lim a) {Q : PV → Nat → List Nat → Prop}
    (hQ : ∀ n' D, n ≤ n' → (∀ x, x ∈ D → n ≤ x) → Q (.bool true) n' D) : PCall Try.prog 7 [.int .i64 x, .int .i64 y, W na ia a] n Q := by
  have hQ : ∀ n', n ≤ n' → Q (.bool true) n' [] := fun n' h => hQ n' [] h (by simp)
  refine of7 hn ?_
  obtain ⟨x2, hx2⟩ : ∃ x2, x2 = x.tdiv 2 := ⟨_, rfl⟩
  obtain ⟨y2, hy2⟩ : ∃ y2, y2 = y.tdiv 2 := ⟨_, rfl⟩
  have bx : -4611686018427387904 ≤ x2 ∧ x2 < 4611686018427387904 := by
    rw [hx2]; by_cases h : 0 ≤ x
    · rw [Int.tdiv_eq_ediv_of_nonneg h]; omega
    · have : x = -(-x) := by omega
      rw [this, Int.neg_tdiv, Int.tdiv_eq_ediv_of_nonneg (by omega)]; omega
  have by' : -4611686018427387904 ≤ y2 ∧ y2 < 4611686018427387904 := by
    rw [hy2]; by_cases h : 0 ≤ y
    · rw [Int.tdiv_eq_ediv_of_nonneg h]; omega
    · have : y = -(-y) := by omega
      rw [this, Int.neg_tdiv, Int.tdiv_eq_ediv_of_nonneg (by omega)]; omega
  have wx : IntKind.i64.wrap (x.tdiv 2) = x2 := wrap_i64_is hx2.symm (by omega)
  have wy : IntKind.i64.wrap (y.tdiv 2) = y2 := wrap_i64_is hy2.symm (by omega)
  have wxy : IntKind.i64.wrap (x2 + y2) = x2 + y2 := wrap_i64_is rfl (by omega)
  obtain ⟨s, hs⟩ : ∃ s, x2 + y2 = s := ⟨_, rfl⟩
  have sx := (small_Z hx).1
  have sx2 := (small_Z (z := x2) (by omega)).1
  have sy2 := (small_Z (z := y2) (by omega)).1
  have lx := sx.len
  simp (disch := omega) [c7]
  refine CallK.of (by simp) (Of_call hn x hx.1 hx.2 fun i1 n1 g1 d1 => ?_)
  simp (disch := omega) [g1]
  refine CallK.of (by simp) (Small_Z (by omega) x hx i1 ?_)
  simp (disch := omega) [g1]
  refine CallK.of (by simp) (RefOf_call (by omega) x hx.1 hx.2 fun i2 n2 g2 d2 => ?_)
  simp (disch := omega) [g1, g2]
  refine CallK.of (by simp) (Same_call (by omega) _ _ i1 i2 _ _ (by omega) ?_)
  simp (disch := omega) [g1, g2, wx]
  refine CallK.of (by simp) (Of_call (by omega) x2 (by omega) (by omega) fun i3 n3 g3 d3 => ?_)
  simp (disch := omega) [g1, g2, g3, wy]
  refine CallK.of (by simp) (Of_call (by omega) y2 (by omega) (by omega) fun i4 n4 g4 d4 => ?_)
  simp (disch := omega) [g1, g2, g3, g4]
  refine CallK.of (by simp) (Add_Z (by omega) x2 y2 s i3 i4 2 sx2 sy2 (by omega) hs fun i5 n5 g5 d5 => ?_)
  simp (disch := omega) [g1, g2, g3, g4, g5]
  refine CallK.of (by simp) (Small_Z (by omega) s (by omega) i5 ?_)
  simp (disch := omega) [g1, g2, g3, g4, g5, wx, wy, wxy, hs]
  refine CallK.of (by simp) (Small_call (by omega) na ia a (by omega) la ?_)
  by_cases h1 : rightW na a = true
  · obtain ⟨z, rfl, rfl⟩ := right_Z h1 la
    have lz := (rightW_top h1).2.1
    simp (disch := omega) [g1, g2, g3, g4, g5]
    refine CallK.of (by simp) (Right_call (by omega) _ ia _ (by omega) ?_)
    simp (disch := omega) [g1, g2, g3, g4, g5, h1]
    refine CallK.of (by simp) (RefOf_call (by omega) (-9223372036854775808) (by omega) (by omega) fun i6 n6 g6 d6 => ?_)
    simp (disch := omega) [g1, g2, g3, g4, g5, g6]
    refine CallK.of (by simp) (RefCompare_call (by omega) _ true ia i6 _ (dig 9223372036854775808) (by omega) (by have := dig_len (v := 9223372036854775808) (k := 2) (by omega); omega) (Lim.dig _) (Lim.dig _) fun n7 g7 => ?_)
    rw [numW_dig, show numW true (dig 9223372036854775808) = -9223372036854775808 by simp [numW, val_dig]]
    by_cases c1 : z < -9223372036854775808
    · have he : smallE (decide (z < 0)) (dig z.natAbs) = 2 := by unfold smallE; rw [h1, if_pos rfl, numW_dig, if_pos (by omega)]
      have hn0 : smallN (decide (z < 0)) (dig z.natAbs) = 0 := by simp [smallN, he]
      have hc := (cmpZ_neg (z - -9223372036854775808)).2 (by omega)
      simp (disch := omega) [-Int.sub_neg, g1, g2, g3, g4, g5, g6, g7, hc, he, hn0]
      refine CallK.of (by simp) (awake_call (by omega) fun n8 g8 => ?_)
      simpa [show n ≤ n8 by omega] using hQ n8 (by omega)
    · have hc : ¬ cmpZ (z - -9223372036854775808) < 0 := fun e => by have := (cmpZ_neg _).1 e; omega
      simp (disch := omega) [-Int.sub_neg, g1, g2, g3, g4, g5, g6, g7, hc]
      refine CallK.of (by simp) (RefOf_call (by omega) 9223372036854775807 (by omega) (by omega) fun i8 n8 g8 d8 => ?_)
      simp (disch := omega) [g1, g2, g3, g4, g5, g6, g7, g8]
      refine CallK.of (by simp) (RefCompare_call (by omega) _ false ia i8 _ (dig 9223372036854775807) (by omega) (by have := dig_len (v := 9223372036854775807) (k := 2) (by omega); omega) (Lim.dig _) (Lim.dig _) fun n9 g9 => ?_)
      rw [numW_dig, show numW false (dig 9223372036854775807) = 9223372036854775807 by simp [numW, val_dig]]
      by_cases c2 : 9223372036854775807 < z
      · have he : smallE (decide (z < 0)) (dig z.natAbs) = 2 := by unfold smallE; rw [h1, if_pos rfl, numW_dig, if_pos (by omega)]
        have hn0 : smallN (decide (z < 0)) (dig z.natAbs) = 0 := by simp [smallN, he]
        have hc := (cmpZ_pos (z - 9223372036854775807)).2 (by omega)
        simp (disch := omega) [-Int.sub_neg, g1, g2, g3, g4, g5, g6, g7, g8, g9, hc, he, hn0]
        refine CallK.of (by simp) (awake_call (by omega) fun n8 g8 => ?_)
        simpa [show n ≤ n8 by omega] using hQ n8 (by omega)
      · have hz : -9223372036854775808 ≤ z ∧ z < 9223372036854775808 := by omega
        obtain ⟨sz1, he, hn0⟩ := small_Z hz
        have hc : ¬ 0 < cmpZ (z - 9223372036854775807) := fun e => by have := (cmpZ_pos _).1 e; omega
        have lz := sz1.len
        simp (disch := omega) [-Int.sub_neg, g1, g2, g3, g4, g5, g6, g7, g8, g9, hc, he, hn0]
        refine CallK.of (by simp) (Of_call (by omega) z (by omega) (by omega) fun i10 n10 g10 d10 => ?_)
        simp (disch := omega) [g1, g2, g3, g4, g5, g6, g7, g8, g9, g10]
        refine CallK.of (by simp) (Same_call (by omega) _ _ i10 ia _ _ (by omega) ?_)
        simp (disch := omega) [g1, g2, g3, g4, g5, g6, g7, g8, g9, g10]
        refine CallK.of (by simp) (awake_call (by omega) fun n11 g11 => ?_)
        simpa [show n ≤ n11 by omega] using hQ n11 (by omega)
  · have he : smallE na a = 1 := by rw [Bool.not_eq_true] at h1; simp [smallE, h1]
    have hn0 : smallN na a = 0 := by simp [smallN, he]
    simp (disch := omega) [g1, g2, g3, g4, g5, he, hn0]
    refine CallK.of (by simp) (Right_call (by omega) na ia a (by omega) ?_)
    simp (disch := omega) [g1, g2, g3, g4, g5, h1]
    refine CallK.of (by simp) (awake_call (by omega) fun n6 g6 => ?_)
    simpa [show n ≤ n6 by omega] using hQ n6 (by omega)
end Go.Proofs.Ytjnedccjfnappaa
