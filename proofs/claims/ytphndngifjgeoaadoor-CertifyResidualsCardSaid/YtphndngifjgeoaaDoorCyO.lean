/- The law of residuals, by value. -/
import Derived.Test.YtphndngifjgeoaaDoorCyN
set_option linter.unusedVariables false
set_option linter.unusedSimpArgs false
set_option maxRecDepth 20000
set_option maxHeartbeats 4000000
namespace Go.Proofs.YtphndngifjgeoaaDoor
open Go.Proofs
theorem told_err {n : Nat} (hn : 0 < n) (F : Int) (hF : F ≠ 0) {Q : PV → Nat → List Nat → Prop} (hQ : Q (.bool true) n []) : PCall Tryd.prog 20 [D false ⟨0, 0, 0⟩ [] 0, .int .i64 F, D false ⟨0, 0, 0⟩ [] 0, .int .i64 F] n Q := by
  have hne : ((F != 0) : Bool) = true := by simpa using hF
  refine of20 hn ?_
  simp (disch := omega) [c20, hne]
  refine CallK.of (by simp) (SameD_call hn false false ⟨0, 0, 0⟩ ⟨0, 0, 0⟩ [] [] 0 0 (by simp) ?_)
  simpa (disch := omega) [hne] using hQ
theorem told_ok {n : Nat} (hn : 0 < n) (L v : Int) (i i' : Sid) (hv : sz v 1000) {Q : PV → Nat → List Nat → Prop} (hQ : Q (.bool true) n []) : PCall Tryd.prog 20 [NV L v i, .int .i64 0, NV L v i', .int .i64 0] n Q := by
  refine of20 hn ?_
  simp (disch := omega) [c20]
  refine CallK.of (by simp) (SameD_call hn _ _ i i' _ _ _ _ (by have := (sz_dyM hv).len; omega) ?_)
  simpa (disch := omega) using hQ
theorem sz_rsS (cb cc : Nat) (hc : cb ≤ 6) (la lb lc : List Nat) (hla : la.length ≤ 36) : sz (rsS cb cc la lb lc) 1000 :=
  (sz_sumN la.length fun q _ => sz_rsQ cb cc hc la lb lc q).mono (by omega)
theorem sz_grS (ra cb cc : Nat) (hr : ra ≤ 6) (hc : cb ≤ 6) (hcc : cc ≤ 6) (la lb lc : List Nat) : sz (grS ra cb cc la lb lc) 1000 :=
  (sz_sumN cc fun j _ => sz_sumN cb fun k _ => (sz_grF ra cb cc hr hc la lb lc k j).mul (sz_grF ra cb cc hr hc la lb lc k j)).mono (by omega)
theorem Residuals_law {n : Nat} (hn : 0 < n) (ra ca rb cb rc cc : Int) (ia ib ic : Sid) (la lb lc : List Nat) (hla : la.length < 35184372088800) (hlb : lb.length < 35184372088800) (hlc : lc.length < 35184372088800) (ba : Bt la) (bb : Bt lb) (bc : Bt lc) : PCall Tryd.prog 5 [Mx ra ca ia la, Mx rb cb ib lb, Mx rc cc ic lc] n (fun v _ D => v = .bool true ∧ D = []) := by
  refine of5 hn ?_
  simp (disch := omega) [c5]
  by_cases hR : resE ra ca rb cb rc cc la lb lc = 0
  · have ha : mChk ra ca la = 0 := by
      unfold resE at hR; split at hR; exact absurd hR ‹_›; rename_i h; exact Classical.not_not.1 h
    have hb : mChk rb cb lb = 0 := by
      unfold resE at hR; rw [if_neg (fun h => h ha)] at hR; split at hR; exact absurd hR ‹_›; rename_i h; exact Classical.not_not.1 h
    have hc : mChk rc cc lc = 0 := by
      unfold resE at hR; rw [if_neg (fun h => h ha), if_neg (fun h => h hb)] at hR; split at hR; exact absurd hR ‹_›; rename_i h; exact Classical.not_not.1 h
    have hs : ¬ (cb ≠ rc ∨ ra ≠ rb ∨ ca ≠ cc) := by
      have hR' := hR
      unfold resE at hR'; rw [if_neg (fun h => h ha), if_neg (fun h => h hb), if_neg (fun h => h hc)] at hR'
      intro h; rw [if_pos h] at hR'; exact absurd hR' (by decide)
    have hs1 : cb = rc := by omega
    have hs2 : ra = rb := by omega
    have hs3 : ca = cc := by omega
    clear hs
    obtain ⟨hma, hfa⟩ := mChk_ok ha
    obtain ⟨hmb, hfb⟩ := mChk_ok hb
    obtain ⟨hmc, hfc⟩ := mChk_ok hc
    obtain ⟨m1, m2, m3, m4, m5⟩ := mOk_iff.1 hmb
    obtain ⟨m1c, m2c, m3c, m4c, m5c⟩ := mOk_iff.1 hmc
    subst hs1 hs2 hs3
    obtain ⟨R, rfl⟩ : ∃ R : Nat, ra = R := ⟨ra.toNat, by omega⟩
    obtain ⟨K, rfl⟩ : ∃ K : Nat, cb = K := ⟨cb.toNat, by omega⟩
    obtain ⟨C, rfl⟩ : ∃ C : Nat, ca = C := ⟨ca.toNat, by omega⟩
    obtain ⟨la1, la2, _, _⟩ := len36 hma
    obtain ⟨lb1, lb2, _, _⟩ := len36 hmb
    obtain ⟨lc1, lc2, _, _⟩ := len36 hmc
    refine CallK.of (by simp) (Residual_call hn R C R K K C ia ib ic la lb lc hla hlb hlc ba bb bc (fun he => absurd hR he) (fun _ i1 n1 g1 d1 => ?_))
    simp only [Int.toNat_natCast]
    have hVs := sz_rsS K C (by omega) la lb lc la2
    obtain ⟨V, hV⟩ : ∃ V, V = rsS K C la lb lc := ⟨_, rfl⟩
    rw [← hV] at hVs ⊢
    simp (disch := omega) [g1]
    refine CallK.of (by simp) (Gradient_call (by omega) R C R K K C ia ib ic la lb lc hla hlb hlc ba bb bc (fun he => absurd hR he) (fun _ i2 n2 g2 d2 => ?_))
    simp only [Int.toNat_natCast]
    have hGs := sz_grS R K C (by omega) (by omega) (by omega) la lb lc
    obtain ⟨G, hG⟩ : ∃ G, G = grS R K C la lb lc := ⟨_, rfl⟩
    rw [← hG] at hGs ⊢
    simp (disch := omega) [g1, g2]
    refine CallK.of (by simp) (RefMCheck_call (by omega) R C ia la hla ba ?_)
    rw [ha]
    simp (disch := omega) [g1, g2]
    refine CallK.of (by simp) (RefMCheck_call (by omega) R K ib lb hlb bb ?_)
    rw [hb]
    simp (disch := omega) [g1, g2]
    refine CallK.of (by simp) (RefMCheck_call (by omega) K C ic lc hlc bc ?_)
    rw [hc]
    simp (disch := omega) [g1, g2]
    refine CallK.of (by simp) (RefResidual_call (by omega) R K C ia ib ic la lb lc la1 lb1 lc1 ⟨by omega, by omega, by omega⟩ ba bb bc fun i3 n3 g3 b3 => ?_)
    rw [← hV]
    simp (disch := omega) [g1, g2, g3]
    refine CallK.of (by simp) (told_ok (by omega) (-4296) V i1 i3 hVs ?_)
    simp (disch := omega) [g1, g2, g3]
    refine CallK.of (by simp) (RefGradient_call (by omega) R K C ia ib ic la lb lc la1 lb1 lc1 ⟨by omega, by omega, by omega⟩ ba bb bc fun i4 n4 g4 b4 => ?_)
    rw [← hG]
    simp (disch := omega) [g1, g2, g3, g4]
    refine CallK.of (by simp) (told_ok (by omega) (-6444) G i2 i4 hGs ?_)
    simp (disch := omega) [g1, g2, g3, g4]
    refine CallK.of (by simp) (awake_call (by omega) fun n' g => ?_)
    simp (disch := omega) [g1, g2, g3, g4, g]
    omega
  · refine CallK.of (by simp) (Residual_call hn ra ca rb cb rc cc ia ib ic la lb lc hla hlb hlc ba bb bc (fun _ => ?_) (fun he => absurd he hR))
    simp (disch := omega) []
    refine CallK.of (by simp) (Gradient_call hn ra ca rb cb rc cc ia ib ic la lb lc hla hlb hlc ba bb bc (fun _ => ?_) (fun he => absurd he hR))
    simp (disch := omega) []
    refine CallK.of (by simp) (RefMCheck_call hn ra ca ia la hla ba ?_)
    by_cases ha : mChk ra ca la = 0
    · rw [ha]
      simp (disch := omega) []
      refine CallK.of (by simp) (RefMCheck_call hn rb cb ib lb hlb bb ?_)
      by_cases hb : mChk rb cb lb = 0
      · rw [hb]
        simp (disch := omega) []
        refine CallK.of (by simp) (RefMCheck_call hn rc cc ic lc hlc bc ?_)
        by_cases hc : mChk rc cc lc = 0
        · rw [hc]
          have hs : cb ≠ rc ∨ ra ≠ rb ∨ ca ≠ cc := by
            apply Classical.byContradiction
            intro hs
            apply hR
            unfold resE
            rw [if_neg (fun h => h ha), if_neg (fun h => h hb), if_neg (fun h => h hc), if_neg hs]
          have hre : resE ra ca rb cb rc cc la lb lc = 3 := by
            unfold resE
            rw [if_neg (fun h => h ha), if_neg (fun h => h hb), if_neg (fun h => h hc), if_pos hs]
          rw [hre]
          by_cases hs1 : cb = rc
          · have hne1 : ((cb != rc) : Bool) = false := by simpa using hs1
            by_cases hs2 : ra = rb
            · have hne2 : ((ra != rb) : Bool) = false := by simpa using hs2
              have hne3 : ((ca != cc) : Bool) = true := by
                have : ca ≠ cc := by rcases hs with h | h | h; exact absurd hs1 h; exact absurd hs2 h; exact h
                simpa using this
              simp (disch := omega) [hne1, hne2, hne3]
              refine CallK.of (by simp) (told_err hn 3 (by decide) ?_)
              simp (disch := omega) []
              refine CallK.of (by simp) (told_err hn 3 (by decide) ?_)
              simp (disch := omega) []
              refine CallK.of (by simp) (awake_call hn fun n' g => ?_)
              simp (disch := omega) [g]
            · have hne2 : ((ra != rb) : Bool) = true := by simpa using hs2
              simp (disch := omega) [hne1, hne2]
              refine CallK.of (by simp) (told_err hn 3 (by decide) ?_)
              simp (disch := omega) []
              refine CallK.of (by simp) (told_err hn 3 (by decide) ?_)
              simp (disch := omega) []
              refine CallK.of (by simp) (awake_call hn fun n' g => ?_)
              simp (disch := omega) [g]
          · have hne1 : ((cb != rc) : Bool) = true := by simpa using hs1
            simp (disch := omega) [hne1]
            refine CallK.of (by simp) (told_err hn 3 (by decide) ?_)
            simp (disch := omega) []
            refine CallK.of (by simp) (told_err hn 3 (by decide) ?_)
            simp (disch := omega) []
            refine CallK.of (by simp) (awake_call hn fun n' g => ?_)
            simp (disch := omega) [g]
        · have hre : resE ra ca rb cb rc cc la lb lc = mChk rc cc lc := by
            unfold resE
            rw [if_neg (fun h => h ha), if_neg (fun h => h hb), if_pos hc]
          rw [hre]
          have h1 : ((mChk rc cc lc == 0) : Bool) = false := by simpa using hc
          have h2 : ((mChk rc cc lc != 0) : Bool) = true := by simpa using hc
          simp (disch := omega) [h1, h2]
          refine CallK.of (by simp) (told_err hn _ hc ?_)
          simp (disch := omega) []
          refine CallK.of (by simp) (told_err hn _ hc ?_)
          simp (disch := omega) []
          refine CallK.of (by simp) (awake_call hn fun n' g => ?_)
          simp (disch := omega) [g]
      · have hre : resE ra ca rb cb rc cc la lb lc = mChk rb cb lb := by
          unfold resE
          rw [if_neg (fun h => h ha), if_pos hb]
        rw [hre]
        have h1 : ((mChk rb cb lb == 0) : Bool) = false := by simpa using hb
        have h2 : ((mChk rb cb lb != 0) : Bool) = true := by simpa using hb
        simp (disch := omega) [h1, h2]
        refine CallK.of (by simp) (told_err hn _ hb ?_)
        simp (disch := omega) []
        refine CallK.of (by simp) (told_err hn _ hb ?_)
        simp (disch := omega) []
        refine CallK.of (by simp) (awake_call hn fun n' g => ?_)
        simp (disch := omega) [g]
    · have hre : resE ra ca rb cb rc cc la lb lc = mChk ra ca la := by
        unfold resE
        rw [if_pos ha]
      rw [hre]
      have h1 : ((mChk ra ca la == 0) : Bool) = false := by simpa using ha
      have h2 : ((mChk ra ca la != 0) : Bool) = true := by simpa using ha
      simp (disch := omega) [h1, h2]
      refine CallK.of (by simp) (told_err hn _ ha ?_)
      simp (disch := omega) []
      refine CallK.of (by simp) (told_err hn _ ha ?_)
      simp (disch := omega) []
      refine CallK.of (by simp) (awake_call hn fun n' g => ?_)
      simp (disch := omega) [g]
end Go.Proofs.YtphndngifjgeoaaDoor
