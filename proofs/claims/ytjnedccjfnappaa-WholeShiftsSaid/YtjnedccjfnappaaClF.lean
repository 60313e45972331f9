/- The laws of layer 1, by value: shifts. -/
import Derived.Test.YtjnedccjfnappaaCtO
set_option linter.unusedVariables false
set_option linter.unusedSimpArgs false
namespace Go.Proofs.Ytjnedccjfnappaa
open Go.Proofs

theorem WholeShifts_call {n : Nat} (hn : 0 < n) (na : Bool) (ia : Sid) (hia : ia.f < n) (a : List Nat) (ha : a.length < 35184372088000) (la : Lim a) (b : Int) (hb : -9223372036854775808 ≤ b ∧ b < 9223372036854775808) {Q : PV → Nat → List Nat → Prop}
    (hQ : ∀ n' D, n ≤ n' → (∀ x, x ∈ D → n ≤ x) → Q (.bool true) n' D) : PCall Try.prog 9 [W na ia a, .int .i64 b] n Q := by
  refine of9 hn ?_
  simp (disch := omega) [c9]
  refine CallK.of (by simp) (Light_call hn na na ia ia a a (by omega) (by omega) ?_)
  by_cases hl : lightB na na a a = true
  · by_cases hr : rightW na a = true
    · have hal : a.length ≤ 40 := by simpa [lightB, hr] using hl
      obtain ⟨x, hx1, hx2⟩ := right_Z hr la
      have sx : sz x 512 := by rw [hx2] at hal; exact (sz_dig x).mono (by omega)
      have hnx : numW na a = x := by rw [hx1, hx2, numW_dig]
      simp (disch := omega) [hl]
      refine CallK.of (by simp) (copied_call hn na ia a (by omega) fun ip n1 h1 h1a h1b => ?_)
      simp (disch := omega) [h1]
      have fa : ¬ ia.f = ip.f := by omega
      by_cases hb1 : b < -16384 ∨ 16384 < b
      · refine CallK.of (by simp) (Shift_call (by omega) na ip a (by omega) la b hb (fun h => by rw [hr] at h; cases h) (fun _ _ => ?_) (fun _ h => by omega))
        simp (disch := omega) [h1]
        refine CallK.of (by simp) (Same_call (by omega) na na ip ia a a (by omega) ?_)
        simp (disch := omega) [h1]
        have hip : ¬ (0 : Nat) = ip.f := by omega
        refine CallK.of (by simp) (spoil_call2 (by omega) na ip (by omega) a (by omega) ?_)
        simp (disch := omega) [h1, fa, hip]
        refine ⟨by omega, ?_⟩
        refine CallK.of (by simp) (form_call (by omega) na na ia ia a a (by omega) (by omega) ?_)
        by_cases hb2 : b < -16384
        · simp (disch := omega) [h1, fa, hip, hr, hb2]
          refine CallK.of (by simp) (told_call (by omega) false false ⟨0, 0, 0⟩ ⟨0, 0, 0⟩ [] [] (by simp) (by simp) 2 2 ?_)
          simp (disch := omega) [toldB, h1]
          refine CallK.of (by simp) (awake_call (by omega) fun n7 h7 => ?_)
          simp (disch := omega) [h1, h7]
          exact ⟨by omega, hQ _ _ (by omega) (by simp; omega)⟩
        · have hb3 : 16384 < b := by omega
          simp (disch := omega) [h1, fa, hip, hr, hb2, hb3]
          refine CallK.of (by simp) (told_call (by omega) false false ⟨0, 0, 0⟩ ⟨0, 0, 0⟩ [] [] (by simp) (by simp) 2 2 ?_)
          simp (disch := omega) [toldB, h1]
          refine CallK.of (by simp) (awake_call (by omega) fun n7 h7 => ?_)
          simp (disch := omega) [h1, h7]
          exact ⟨by omega, hQ _ _ (by omega) (by simp; omega)⟩
      · have hb2 : ¬ b < -16384 := by omega
        have hb3 : ¬ 16384 < b := by omega
        obtain ⟨z, hz⟩ : ∃ z, shZ x b = z := ⟨_, rfl⟩
        refine CallK.of (by simp) (Shift_call (by omega) na ip a (by omega) la b hb (fun h => by rw [hr] at h; cases h) (fun _ h => absurd h hb1) (fun _ _ is n2 h2 hs => ?_))
        rw [hnx, hz]
        have hzl : (ansL z).length ≤ 512 := ansIs_len (ansIs_ans z)
        simp (disch := omega) [h1, h2]
        refine CallK.of (by simp) (Same_call (by omega) na na ip ia a a (by omega) ?_)
        simp (disch := omega) [h1, h2]
        have fs : ¬ is.f = ip.f ∧ is.f < n2 := by rcases hs with e | e <;> first | (subst e; simp; omega) | omega
        refine CallK.of (by simp) (spoil_call2 (by omega) na ip (by omega) a (by omega) ?_)
        simp (disch := omega) [h1, h2, fa, fs]
        refine ⟨by omega, ?_⟩
        refine CallK.of (by simp) (form_call (by omega) na na ia ia a a (by omega) (by omega) ?_)
        simp (disch := omega) [h1, h2, fa, fs, hr, hb2, hb3]
        subst hx1
        subst hx2
        refine CallK.of (by simp) (RefShift_call (by omega) x ia (by omega) sx b (by omega) z hz fun i3 n3 h3 => ?_)
        simp (disch := omega) [h1, h2, h3, fa, fs]
        have hzd : (dig z.natAbs).length < 35184372088800 := by
          have := (shZ_sz (j := 512) hz sx (by omega)).len
          omega
        refine CallK.of (by simp) (told_true (by omega) _ is i3 _ _ _ (ansIs_ans z) (by simp) hzd ?_)
        simp (disch := omega) [h1, h2, h3, fa, fs]
        refine CallK.of (by simp) (awake_call (by omega) fun n7 h7 => ?_)
        simp (disch := omega) [h1, h2, h3, h7]
        exact ⟨by omega, hQ _ _ (by omega) (by simp; omega)⟩
    · rw [Bool.not_eq_true] at hr
      simp (disch := omega) [hl]
      refine CallK.of (by simp) (copied_call hn na ia a (by omega) fun ip n1 h1 h1a h1b => ?_)
      simp (disch := omega) [h1]
      have fa : ¬ ia.f = ip.f := by omega
      have hip : ¬ (0 : Nat) = ip.f := by omega
      refine CallK.of (by simp) (Shift_call (by omega) na ip a (by omega) la b hb (fun _ => ?_) (fun h => by rw [hr] at h; cases h) (fun h => by rw [hr] at h; cases h))
      simp (disch := omega) [h1]
      refine CallK.of (by simp) (Same_call (by omega) na na ip ia a a (by omega) ?_)
      simp (disch := omega) [h1]
      refine CallK.of (by simp) (spoil_call2 (by omega) na ip (by omega) a (by omega) ?_)
      simp (disch := omega) [h1, fa, hip]
      refine ⟨by omega, ?_⟩
      refine CallK.of (by simp) (form_call (by omega) na na ia ia a a (by omega) (by omega) ?_)
      simp (disch := omega) [h1, fa, hip, hr]
      refine CallK.of (by simp) (told_call (by omega) false false ⟨0, 0, 0⟩ ⟨0, 0, 0⟩ [] [] (by simp) (by simp) 1 1 ?_)
      simp (disch := omega) [toldB, h1]
      refine CallK.of (by simp) (awake_call (by omega) fun n7 h7 => ?_)
      simp (disch := omega) [h1, h7]
      exact ⟨by omega, hQ _ _ (by omega) (by simp; omega)⟩
  · rw [Bool.not_eq_true] at hl
    simp (disch := omega) [hl]
    refine CallK.of (by simp) (awake_call (by omega) fun n7 h7 => ?_)
    simpa (disch := omega) [show n ≤ n7 by omega] using hQ n7 [] (by omega) (by simp)
end Go.Proofs.Ytjnedccjfnappaa
