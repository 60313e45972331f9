/- The law ExactMinors, by value. -/
import Derived.Test.YtcdkgeeookcoeaaExN
set_option linter.unusedVariables false
set_option linter.unusedSimpArgs false
namespace Go.Proofs.Ytcdkgeeookcoeaa
open Go.Proofs

theorem ExactMinors_call {n : Nat} (hn : 0 < n) (i ia ic : Sid) (M : List Rw) (a c : List Int) (hM : Fits M) (hs : Sids n M) (ha : a.length < 35184372088800) (hc : c.length < 35184372088800) {Q : PV → Nat → List Nat → Prop}
    (hQ : ∀ n' D, n ≤ n' → (∀ x, x ∈ D → n ≤ x) → Q (.bool true) n' D) : PCall Try.prog 8 [.sl i 1 (M.map Rw.pv), .sl ia 1 (ints a), .sl ic 1 (ints c)] n Q := by
  have hQ : ∀ n', n ≤ n' → Q (.bool true) n' [] := fun n' h => hQ n' [] h (by simp)
  have hl := hM.1
  have hwl := width_lt hM
  refine of8 hn ?_
  simp (disch := omega) [c8]
  refine CallK.of (by simp) (LightM_call hn i M hM 10 (by omega) ?_)
  cases hlt : lightM 10 M
  · simp (disch := omega) [hlt]
    refine CallK.of (by simp) (awakeE_call hn fun n' g => ?_)
    simpa (disch := omega) [g] using hQ n' g
  · simp (disch := omega) [hlt]
    by_cases hk : chk M = 0
    · obtain ⟨hm, hMl, hw⟩ := mx_of hk hlt hM hs
      by_cases hE : minE M a c = 0
      · have hE0 := hE
        unfold minE at hE
        split at hE
        · rename_i h12
          obtain ⟨h1, h2⟩ := h12
          split at hE
          · rename_i h3
            refine CallK.of (by simp) (Minor_ok hn i ia ic M a c hM ha hc hk hE0 hm fun i1 n1 g1 d1 => ?_)
            have la := riseB_lt h1
            have lc := riseB_lt h2
            have l1 := riseB_len h1
            have hne : binPV Try.prog .neq 3 (.int .i64 (a.length : Int)) (.int .i64 (c.length : Int)) = some (.bool false) := by rw [binPV_neq, h3]; simp
            obtain ⟨z, hz⟩ : ∃ z, z = Dt ((pickR M (nats a)).map Rw.f) (nats c) := ⟨_, rfl⟩
            have hpk : ∀ j, j ∈ nats a → j < M.length := fun j hj => by obtain ⟨x, hx, rfl⟩ := List.mem_map.1 hj; have := la x hx; omega
            have hck : ∀ j, j ∈ nats c → j < widthR M := fun j hj => by obtain ⟨x, hx, rfl⟩ := List.mem_map.1 hj; have := lc x hx; omega
            have hzs : sz z 97 := by
              rw [hz]
              refine sz_Dt6 (fun r hr x => ?_) (by simp [pickR, nats]; omega) (by simp [nats]; omega)
              obtain ⟨r', hr', rfl⟩ := List.mem_map.1 hr
              obtain ⟨j, hj, rfl⟩ := List.mem_map.1 hr'
              have hjM := hpk j hj
              have e : M.getD j default = M[j] := by simp [List.getD, hjM]
              rw [e]
              exact sz_f (hm _ (List.getElem_mem _)) x
            rw [← hz]
            simp (disch := omega) [g1]
            refine CallK.of (by simp) (RefCheckM_call (by omega) i M hM ?_)
            simp (disch := omega) [hk, g1]
            refine CallK.of (by simp) (Rising_call (by omega) ia a M.length ha ?_)
            simp (disch := omega) [h1, g1]
            refine CallK.of (by simp) (RefWidth_call (by omega) i M (by omega) (by omega) ?_)
            simp (disch := omega) [h1, g1]
            refine CallK.of (by simp) (Rising_call (by omega) ic c (widthR M) hc ?_)
            have hn0 : binPV Try.prog .neq 23 (.int .i64 0) (.int .i64 0) = some (.bool false) := by rw [binPV_neq]; rfl
            simp (disch := omega) [-binPV_neq, h1, h2, g1, hne, hn0]
            rw [ints_i64s fun x hx => (la x hx).1, ints_i64s fun x hx => (lc x hx).1]
            refine CallK.of (by simp) (RefDet_call (n := n1) (widthR M) i M hMl (nats a) (nats c) (by simp [nats, h3]) (by simp [nats]; omega) hpk hck (by omega) ia ic (hm.mono g1) fun i3 n3 g3 d3 => ?_)
            rw [← hz]
            simp (disch := omega) [g1, g3]
            refine CallK.of (by simp) (Same_Z (by omega) i1 i3 z 97 hzs (by omega) ?_)
            simp (disch := omega) [g1, g3]
            refine CallK.of (by simp) (awakeE_call (by omega) fun n' g => ?_)
            simpa (disch := omega) [show n ≤ n' by omega] using hQ n' (by omega)
          · omega
        · omega
      · refine CallK.of (by simp) (Minor_no hn i ia ic M a c hM ha hc hk hE ?_)
        simp (disch := omega) []
        refine CallK.of (by simp) (RefCheckM_call (by omega) i M hM ?_)
        simp (disch := omega) [hk]
        refine CallK.of (by simp) (Rising_call (by omega) ia a M.length ha ?_)
        by_cases h1 : riseB a M.length = true
        · simp (disch := omega) [h1]
          refine CallK.of (by simp) (RefWidth_call (by omega) i M (by omega) (by omega) ?_)
          simp (disch := omega) [h1]
          refine CallK.of (by simp) (Rising_call (by omega) ic c (widthR M) hc ?_)
          by_cases h2 : riseB c (widthR M) = true
          · have h3 : ¬ a.length = c.length := fun h3 => hE (by unfold minE; rw [if_pos ⟨h1, h2⟩, if_pos h3])
            have hEv : minE M a c = 3 := by unfold minE; rw [if_pos ⟨h1, h2⟩, if_neg h3]
            simp (disch := omega) [h1, h2, h3, hEv]
            refine CallK.of (by simp) (Same_nil hn _ _ ?_)
            simp (disch := omega) []
            refine CallK.of (by simp) (awakeE_call hn fun n' g => ?_)
            simpa (disch := omega) [g] using hQ n' g
          · have hEv : minE M a c = 1 := by unfold minE; rw [if_neg (fun h => h2 h.2)]
            simp (disch := omega) [h1, h2, hEv]
            refine CallK.of (by simp) (Same_nil hn _ _ ?_)
            simp (disch := omega) []
            refine CallK.of (by simp) (awakeE_call hn fun n' g => ?_)
            simpa (disch := omega) [g] using hQ n' g
        · have hEv : minE M a c = 1 := by unfold minE; rw [if_neg (fun h => h1 h.1)]
          simp (disch := omega) [h1, hEv]
          refine CallK.of (by simp) (Same_nil hn _ _ ?_)
          simp (disch := omega) []
          refine CallK.of (by simp) (awakeE_call hn fun n' g => ?_)
          simpa (disch := omega) [g] using hQ n' g
    · have hc' : (chk M == 0) = false := by simpa using hk
      have hc'' : (chk M != 0) = true := by simpa using hk
      refine CallK.of (by simp) (Minor_err hn i ia ic M a c hM hk ?_)
      simp (disch := omega) []
      refine CallK.of (by simp) (RefCheckM_call hn i M hM ?_)
      simp (disch := omega) [hk, hc', hc'']
      refine CallK.of (by simp) (Same_nil hn _ _ ?_)
      simp (disch := omega) []
      refine CallK.of (by simp) (awakeE_call hn fun n' g => ?_)
      simpa (disch := omega) [g] using hQ n' g
end Go.Proofs.Ytcdkgeeookcoeaa
