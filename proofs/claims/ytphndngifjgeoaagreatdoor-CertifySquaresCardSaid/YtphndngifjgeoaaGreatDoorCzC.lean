/- The law of squares, by value: the square of any matrix, and how far its columns are from standing upright on one another, or why that can't be told. Conditions: none but that the slice is not longer than any can be. -/
import Derived.Test.YtphndngifjgeoaaGreatDoorCzB
set_option linter.unusedVariables false
set_option linter.unusedSimpArgs false
set_option maxRecDepth 20000
set_option maxHeartbeats 4000000
namespace Go.Proofs.YtphndngifjgeoaaGreatDoor
open Go.Proofs
theorem told_err {n : Nat} (hn : 0 < n) (F : Int) (hF : F ≠ 0) {Q : PV → Nat → List Nat → Prop} (hQ : Q (.bool true) n []) : PCall Tryz.prog 8 [D false ⟨0, 0, 0⟩ [] 0, .int .i64 F, D false ⟨0, 0, 0⟩ [] 0, .int .i64 F] n Q := by
  have hne : ((F != 0) : Bool) = true := by simpa using hF
  refine of8 hn ?_
  simp (disch := omega) [c8, hne]
  refine CallK.of (by simp) (SameD_call hn false false ⟨0, 0, 0⟩ ⟨0, 0, 0⟩ [] [] 0 0 (by simp) ?_)
  simpa (disch := omega) [hne] using hQ
theorem told_ok {n : Nat} (hn : 0 < n) (L v : Int) (i i' : Sid) (hv : sz v 1000) {Q : PV → Nat → List Nat → Prop} (hQ : Q (.bool true) n []) : PCall Tryz.prog 8 [NV L v i, .int .i64 0, NV L v i', .int .i64 0] n Q := by
  refine of8 hn ?_
  simp (disch := omega) [c8]
  refine CallK.of (by simp) (SameD_call hn _ _ i i' _ _ _ _ (by have := (sz_dyM hv).len; omega) ?_)
  simpa (disch := omega) using hQ
theorem sz_sqM (l : List Nat) (hl : l.length ≤ 36) : sz (sqM l) 1000 := by
  rw [sqM_eq]; exact (sz_sumN _ fun q _ => sz_sqF l q).mono (by omega)
theorem sz_otS (r c : Nat) (hr : r ≤ 6) (hc : c ≤ 6) (l : List Nat) : sz (otS r c l) 1000 := by
  have : c * c ≤ 36 := Nat.mul_le_mul hc hc
  exact (sz_sumN (c * c) fun q _ => sz_otQ r c hr l q).mono (by omega)
theorem Squares_law {n : Nat} (hn : 0 < n) (r c : Int) (i : Sid) (l : List Nat) (hl : l.length < 35184372088800) (hb : Bt l) : PCall Tryz.prog 3 [Mx r c i l] n (fun v _ D => v = .bool true ∧ D = []) := by
  refine of3 hn ?_
  simp (disch := omega) [c3]
  by_cases h : mChk r c l = 0
  · obtain ⟨hm, hf⟩ := mChk_ok h
    obtain ⟨m1, m2, m3, m4, m5⟩ := mOk_iff.1 hm
    obtain ⟨R, rfl⟩ : ∃ R : Nat, r = R := ⟨r.toNat, by omega⟩
    obtain ⟨C, rfl⟩ : ∃ C : Nat, c = C := ⟨c.toNat, by omega⟩
    obtain ⟨hlen, hl36, hR6, hC6⟩ := len36 hm
    refine CallK.of (by simp) (Square_ok hn R C i l hb h fun i1 n1 g1 d1 => ?_)
    have hVs := sz_sqM l hl36
    obtain ⟨V, hV⟩ : ∃ V, V = sqM l := ⟨_, rfl⟩
    rw [← hV] at hVs ⊢
    simp (disch := omega) [g1]
    refine CallK.of (by simp) (Orth_ok (by omega) R C i l hb h fun i2 n2 g2 d2 => ?_)
    have hGs := sz_otS R C hR6 hC6 l
    obtain ⟨G, hG⟩ : ∃ G, G = otS R C l := ⟨_, rfl⟩
    rw [← hG] at hGs ⊢
    simp (disch := omega) [g1, g2]
    refine CallK.of (by simp) (RefMCheck_call (by omega) R C i l (by omega) hb ?_)
    rw [h]
    simp (disch := omega) [g1, g2]
    refine CallK.of (by simp) (MCheck11_call (by omega) R C i l (by omega) hb ?_)
    rw [h]
    simp (disch := omega) [g1, g2]
    refine CallK.of (by simp) (RSquare_call (by omega) R C i l hl36 hb fun i3 n3 g3 b3 => ?_)
    rw [← hV]
    simp (disch := omega) [g1, g2, g3]
    refine CallK.of (by simp) (told_ok (by omega) (-2148) V i1 i3 hVs ?_)
    simp (disch := omega) [g1, g2, g3]
    refine CallK.of (by simp) (ROrth_call (by omega) R C i l hlen ⟨hR6, hC6⟩ hb fun i4 n4 g4 b4 => ?_)
    rw [← hG]
    simp (disch := omega) [g1, g2, g3, g4]
    refine CallK.of (by simp) (told_ok (by omega) (-4296) G i2 i4 hGs ?_)
    simp (disch := omega) [g1, g2, g3, g4]
    refine CallK.of (by simp) (awake_call (by omega) fun n' g => ?_)
    simp (disch := omega) [g1, g2, g3, g4, g]
    omega
  · have hne : ((mChk r c l != 0) : Bool) = true := by simpa using h
    refine CallK.of (by simp) (Square_err hn r c i l hl hb h ?_)
    simp (disch := omega) []
    refine CallK.of (by simp) (Orth_err hn r c i l hl hb h ?_)
    simp (disch := omega) []
    refine CallK.of (by simp) (RefMCheck_call hn r c i l hl hb ?_)
    simp (disch := omega) []
    refine CallK.of (by simp) (MCheck11_call hn r c i l hl hb ?_)
    obtain ⟨F, hF⟩ : ∃ F, F = mChk r c l := ⟨_, rfl⟩
    rw [← hF] at h hne ⊢
    simp (disch := omega) [hne]
    refine CallK.of (by simp) (told_err hn F h ?_)
    simp (disch := omega) [hne]
    refine CallK.of (by simp) (told_err hn F h ?_)
    simp (disch := omega) [hne]
    refine CallK.of (by simp) (awake_call hn fun n' g => ?_)
    simp (disch := omega) [g]
end Go.Proofs.YtphndngifjgeoaaGreatDoor
