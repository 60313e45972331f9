/- The laws of layer 2, by value: which of two is more. -/
import Derived.Test.YtaankihkejodgaaDoorDyI
set_option linter.unusedVariables false
set_option linter.unusedSimpArgs false
namespace Go.Proofs.YtaankihkejodgaaDoor
open Go.Proofs

theorem cmpZ_dyM (u : Int) : cmpZ (dyM u) = cmpZ u := by
  by_cases hz : u = 0
  · rw [hz]; simp [dyM]
  · have a := (dyM_back hz).2.1
    have hp := two_pow_pos' (tz u.natAbs)
    generalize dyM u = m at *
    generalize tz u.natAbs = t at *
    rw [a]
    rcases cmpZ_cases m with ⟨h, h1⟩ | ⟨h, h1⟩ | ⟨h, h1⟩
    · have := Int.mul_neg_of_neg_of_pos h hp
      rw [h1]; unfold cmpZ; rw [if_pos this]
    · rw [h]; simp
    · have := Int.mul_pos h hp
      rw [h1]; unfold cmpZ; rw [if_neg (by omega), if_neg (by omega)]

set_option maxRecDepth 100000 in
theorem DyadicOrders_call {n : Nat} (hn : 0 < n) (na nb : Bool) (ia ib : Sid) (hia : ia.f < n) (hib : ib.f < n) (a b : List Nat) (e f : Int) (ha : a.length < 35184372088000) (hb : b.length < 35184372088000) (la : Lim a) (lb : Lim b) {Q : PV → Nat → List Nat → Prop}
    (hQ : ∀ n' D, n ≤ n' → (∀ x, x ∈ D → n ≤ x) → Q (.bool true) n' D) : PCall Tryd.prog 8 [D na ia a e, D nb ib b f] n Q := by
  have hQ : ∀ n', n ≤ n' → Q (.bool true) n' [] := fun n' h => hQ n' [] h (by simp)
  refine of8 hn ?_
  simp (disch := omega) [c8]
  refine CallK.of (by simp) (lightD_call hn na nb ia ib a b e f (by omega) (by omega) ?_)
  by_cases hl : a.length ≤ 30 ∧ b.length ≤ 30
  · obtain ⟨hl1, hl2⟩ := hl
    simp (disch := omega) [hl1, hl2]
    cases hr : rightD na a e && rightD nb b f
    · refine CallK.of (by simp) (CompareD_bad hn na nb ia ib a b e f (by omega) (by omega) la lb hr ?_)
      simp (disch := omega) []
      refine CallK.of (by simp) (formD_call hn na nb ia ib a b e f (by omega) (by omega) la lb ?_)
      rw [hr]
      simp (disch := omega) []
      refine CallK.of (by simp) (awakeD_call (by omega) fun n2 k2 => ?_)
      simpa [k2] using hQ n2 k2
    · have hr' := hr
      rw [Bool.and_eq_true] at hr
      obtain ⟨x, rfl, rfl, sx, he1, he2, xM, hx0, xt⟩ := rightD_Z hr.1 la
      obtain ⟨y, rfl, rfl, sy, hf1, hf2, yM, hy0, yt⟩ := rightD_Z hr.2 lb
      have sx' : sz x 255 := (sz_dig x).mono (by omega)
      have sy' : sz y 255 := (sz_dig y).mono (by omega)
      refine CallK.of (by simp) (CompareD_Z hn x y e f ia ib sx' sy' hr.1 hr.2 hx0 hy0 fun n1 g1 => ?_)
      simp (disch := omega) [g1]
      refine CallK.of (by simp) (formD_call (by omega) _ _ ia ib _ _ e f (by omega) (by omega) la lb ?_)
      rw [hr']
      simp (disch := omega) [g1]
      refine CallK.of (by simp) (CompareD_Z (by omega) y x f e ib ia sy' sx' hr.2 hr.1 hy0 hx0 fun n2 g2 => ?_)
      rw [ordD_swap hx0 hy0]
      simp (disch := omega) [g1, g2]
      refine CallK.of (by simp) (SubD_Z (by omega) x y e f ia ib sx' sy' hr.1 hr.2 hx0 hy0 fun i3 n3 sn sl se sr g3 d3 hs => ?_)
      have hoB : -1 ≤ ordD x y e f ∧ ordD x y e f ≤ 1 := by
        rw [← ordD_diff hx0 hy0]
        have := cmpZ_cases (sumZ x (-y) e f)
        omega
      have hwr : IntKind.i64.wrap (- ordD x y e f) = - ordD x y e f := wrap_i64_is rfl (by omega)
      have hsame : (ordD x y e f == 0) = (decide (e = f) && (decide (x < 0) == decide (y < 0) && decide (dig x.natAbs = dig y.natAbs))) := by
        rw [Bool.eq_iff_iff]
        simp only [beq_iff_eq, Bool.and_eq_true, decide_eq_true_eq]
        rw [ordD_same xM yM hx0 hy0 xt yt]
        constructor
        · rintro ⟨rfl, rfl⟩; simp
        · rintro ⟨rfl, h1, h2⟩
          refine ⟨?_, rfl⟩
          have h4 : decide (x < 0) = decide (y < 0) := by simpa using h1
          rw [← numW_dig x, ← numW_dig y, h4, h2]
      have tail : ∀ n3, n ≤ n3 → True := fun _ _ => trivial
      by_cases hw : wideD x y e f = true
      · rw [hw] at hs
        simp only [if_true] at hs
        have hsr : sr = 2 := hs.2.2.2
        subst hsr
        simp (disch := omega) [g1, g2, g3]
        refine CallK.of (by simp) (RefCompareD_call (by omega) x y e f ia ib (by omega) (by omega) sx' sy' hx0 hy0 (by omega) (by omega) fun n4 g4 => ?_)
        simp (disch := omega) [-wrap_i64_at, hwr, g1, g2, g3, g4]
        refine CallK.of (by simp) (SameD_call (by omega) _ _ ia ib _ _ e f (by omega) ?_)
        rw [← hsame]
        simp (disch := omega) [g1, g2, g3, g4]
        refine CallK.of (by simp) (awakeD_call (by omega) fun n5 k5 => ?_)
        simpa [show n ≤ n5 by omega] using hQ n5 (by omega)
      · rw [Bool.not_eq_true] at hw
        rw [hw] at hs
        simp only [Bool.false_eq_true, if_false] at hs
        have z2 := sumZ_sz sx' (sz_neg sy') hx0 (fun h => hy0 (by omega)) (by rw [wideD_neg]; exact hw)
        have u2 := (sz_dyM z2).len
        have main : ∀ {n5}, n3 ≤ n5 → True := fun _ => trivial
        by_cases hd : dyOk (sumZ x (-y) e f) (lowE x y e f) = true
        · have hs2 : sn = decide (dyM (sumZ x (-y) e f) < 0) ∧ sl = dig (dyM (sumZ x (-y) e f)).natAbs ∧ se = dyE (sumZ x (-y) e f) (lowE x y e f) ∧ sr = 0 := by
            unfold ansD at hs; rw [if_pos rfl, if_pos hd] at hs; exact hs
          obtain ⟨rfl, rfl, rfl, rfl⟩ := hs2
          have hsg : cmpZ (dyM (sumZ x (-y) e f)) = ordD x y e f := by rw [cmpZ_dyM, ordD_diff hx0 hy0]
          simp (disch := omega) [g1, g2, g3]
          refine CallK.of (by simp) (RefSignD_call (by omega) (dyM (sumZ x (-y) e f)) _ i3 (sz_dyM z2) ?_)
          rw [hsg]
          simp (disch := omega) [g1, g2, g3]
          refine CallK.of (by simp) (RefCompareD_call (by omega) x y e f ia ib (by omega) (by omega) sx' sy' hx0 hy0 (by omega) (by omega) fun n4 g4 => ?_)
          simp (disch := omega) [-wrap_i64_at, hwr, g1, g2, g3, g4]
          refine CallK.of (by simp) (SameD_call (by omega) _ _ ia ib _ _ e f (by omega) ?_)
          rw [← hsame]
          simp (disch := omega) [g1, g2, g3, g4]
          refine CallK.of (by simp) (awakeD_call (by omega) fun n5 k5 => ?_)
          simpa [show n ≤ n5 by omega] using hQ n5 (by omega)
        · have hs2 : sn = false ∧ sl = [] ∧ se = 0 ∧ sr = 2 := by
            unfold ansD at hs; rw [if_pos rfl, if_neg hd] at hs; exact hs
          obtain ⟨rfl, rfl, rfl, rfl⟩ := hs2
          simp (disch := omega) [g1, g2, g3]
          refine CallK.of (by simp) (RefCompareD_call (by omega) x y e f ia ib (by omega) (by omega) sx' sy' hx0 hy0 (by omega) (by omega) fun n4 g4 => ?_)
          simp (disch := omega) [-wrap_i64_at, hwr, g1, g2, g3, g4]
          refine CallK.of (by simp) (SameD_call (by omega) _ _ ia ib _ _ e f (by omega) ?_)
          rw [← hsame]
          simp (disch := omega) [g1, g2, g3, g4]
          refine CallK.of (by simp) (awakeD_call (by omega) fun n5 k5 => ?_)
          simpa [show n ≤ n5 by omega] using hQ n5 (by omega)
  · have hl3 : (decide (a.length ≤ 30) && decide (b.length ≤ 30)) = false := by simp; omega
    rw [hl3]
    simp (disch := omega) []
    refine CallK.of (by simp) (awakeD_call (by omega) fun n2 k2 => ?_)
    simpa [k2] using hQ n2 k2
end Go.Proofs.YtaankihkejodgaaDoor
