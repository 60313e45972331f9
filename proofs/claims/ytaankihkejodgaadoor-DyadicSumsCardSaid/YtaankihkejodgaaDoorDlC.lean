/- The laws of layer 2, by value: sums. -/
import Derived.Test.YtaankihkejodgaaDoorDyG
set_option linter.unusedVariables false
set_option linter.unusedSimpArgs false
namespace Go.Proofs.YtaankihkejodgaaDoor
open Go.Proofs

theorem DyadicSums_call {n : Nat} (hn : 0 < n) (na nb : Bool) (ia ib : Sid) (hia : ia.f < n) (hib : ib.f < n) (a b : List Nat) (e f : Int) (ha : a.length < 35184372088000) (hb : b.length < 35184372088000) (la : Lim a) (lb : Lim b) {Q : PV → Nat → List Nat → Prop}
    (hQ : ∀ n' D, n ≤ n' → (∀ x, x ∈ D → n ≤ x) → Q (.bool true) n' D) : PCall Tryd.prog 6 [D na ia a e, D nb ib b f] n Q := by
  have hQ : ∀ n', n ≤ n' → Q (.bool true) n' [] := fun n' h => hQ n' [] h (by simp)
  refine of6 hn ?_
  simp (disch := omega) [c6]
  refine CallK.of (by simp) (lightD_call hn na nb ia ib a b e f (by omega) (by omega) ?_)
  by_cases hl : a.length ≤ 30 ∧ b.length ≤ 30
  · obtain ⟨hl1, hl2⟩ := hl
    simp (disch := omega) [hl1, hl2]
    cases hr : rightD na a e && rightD nb b f
    · refine CallK.of (by simp) (AddD_bad hn na nb ia ib a b e f (by omega) (by omega) la lb hr ?_)
      simp (disch := omega) []
      refine CallK.of (by simp) (SubD_bad hn na nb ia ib a b e f (by omega) (by omega) la lb hr ?_)
      simp (disch := omega) []
      refine CallK.of (by simp) (formD_call hn na nb ia ib a b e f (by omega) (by omega) la lb ?_)
      rw [hr]
      simp (disch := omega) []
      refine CallK.of (by simp) (toldD_err hn false ⟨0, 0, 0⟩ [] 0 1 (by omega) (by simp) .nil ?_)
      simp (disch := omega) []
      refine CallK.of (by simp) (toldD_err hn false ⟨0, 0, 0⟩ [] 0 1 (by omega) (by simp) .nil ?_)
      simp (disch := omega) []
      refine CallK.of (by simp) (awakeD_call (by omega) fun n2 k2 => ?_)
      simpa [k2] using hQ n2 k2
    · have hr' := hr
      rw [Bool.and_eq_true] at hr
      obtain ⟨x, rfl, rfl, sx, he1, he2, _, hx0, _⟩ := rightD_Z hr.1 la
      obtain ⟨y, rfl, rfl, sy, hf1, hf2, _, hy0, _⟩ := rightD_Z hr.2 lb
      have sx' : sz x 30 := (sz_dig x).mono hl1
      have sy' : sz y 30 := (sz_dig y).mono hl2
      refine CallK.of (by simp) (AddD_Z hn x y e f ia ib sx' sy' hr.1 hr.2 hx0 hy0 fun i1 n1 pn pl pe pr g1 d1 hp => ?_)
      simp (disch := omega) [g1]
      refine CallK.of (by simp) (SubD_Z (by omega) x y e f ia ib sx' sy' hr.1 hr.2 hx0 hy0 fun i2 n2 sn sl se sr g2 d2 hs => ?_)
      simp (disch := omega) [g1, g2]
      refine CallK.of (by simp) (formD_call (by omega) _ _ ia ib _ _ e f (by omega) (by omega) la lb ?_)
      rw [hr']
      simp (disch := omega) [g1, g2]
      refine CallK.of (by simp) (Wide_call (by omega) x y e f ia ib sx sy (by omega) (by omega) ?_)
      cases hw : wideD x y e f
      · rw [hw] at hp hs
        simp only [Bool.false_eq_true, if_false] at hp hs
        have z1 := sumZ_sz sx' sy' hx0 hy0 hw
        have z2 := sumZ_sz sx' (sz_neg sy') hx0 (fun h => hy0 (by omega)) (by rw [wideD_neg]; exact hw)
        obtain ⟨u, hu⟩ : ∃ u, u = sumZ x y e f := ⟨_, rfl⟩
        obtain ⟨v, hv⟩ : ∃ v, v = sumZ x (-y) e f := ⟨_, rfl⟩
        rw [← hu] at hp z1
        rw [← hv] at hs z2
        have u1 := (sz_dyM z1).len
        have u2 := (sz_dyM z2).len
        simp (disch := omega) [g1, g2]
        refine CallK.of (by simp) (RefAddD_call (by omega) x y e f ia ib (by omega) (by omega) sx' sy' hx0 hy0 (by omega) (by omega) hw fun i3 n3 g3 => ?_)
        rw [← hu]
        simp (disch := omega) [g1, g2, g3]
        refine CallK.of (by simp) (toldD_any (by omega) hp (fun _ => z1) _ _ _ i1 i3 (by omega) (Lim.dig _) (fun _ => ⟨rfl, rfl, rfl⟩) ?_)
        simp (disch := omega) [g1, g2, g3]
        refine CallK.of (by simp) (RefSubD_call (by omega) x y e f ia ib (by omega) (by omega) sx' sy' hx0 hy0 (by omega) (by omega) hw fun i4 n4 g4 => ?_)
        rw [← hv]
        simp (disch := omega) [g1, g2, g3, g4]
        refine CallK.of (by simp) (toldD_any (by omega) hs (fun _ => z2) _ _ _ i2 i4 (by omega) (Lim.dig _) (fun _ => ⟨rfl, rfl, rfl⟩) ?_)
        simp (disch := omega) [g1, g2, g3, g4]
        refine CallK.of (by simp) (awakeD_call (by omega) fun n5 k5 => ?_)
        simpa [show n ≤ n5 by omega] using hQ n5 (by omega)
      · rw [hw] at hp hs
        simp only [if_true] at hp hs
        simp (disch := omega) [g1, g2]
        refine CallK.of (by simp) (toldD_any (by omega) hp (fun h => by simp at h) false [] 0 i1 ⟨0, 0, 0⟩ (by simp) .nil (fun h => by simp at h) ?_)
        simp (disch := omega) [g1, g2]
        refine CallK.of (by simp) (toldD_any (by omega) hs (fun h => by simp at h) false [] 0 i2 ⟨0, 0, 0⟩ (by simp) .nil (fun h => by simp at h) ?_)
        simp (disch := omega) [g1, g2]
        refine CallK.of (by simp) (awakeD_call (by omega) fun n5 k5 => ?_)
        simpa [show n ≤ n5 by omega] using hQ n5 (by omega)
  · have hl3 : (decide (a.length ≤ 30) && decide (b.length ≤ 30)) = false := by simp; omega
    rw [hl3]
    simp (disch := omega) []
    refine CallK.of (by simp) (awakeD_call (by omega) fun n2 k2 => ?_)
    simpa [k2] using hQ n2 k2
end Go.Proofs.YtaankihkejodgaaDoor
