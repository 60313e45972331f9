/- The laws of layer 3, by value: checks, determinants, ranks, minors. -/
import Derived.Test.YtcdkgeeookcoeaaExM
set_option linter.unusedVariables false
set_option linter.unusedSimpArgs false
namespace Go.Proofs.Ytcdkgeeookcoeaa
open Go.Proofs

theorem MxOk.le {n w b b' : Nat} {M : List Rw} (h : MxOk n w b M) (hb : b ≤ b') : MxOk n w b' M := fun r hr => ⟨(h r hr).f, (h r hr).w, fun e he => ⟨((h r hr).e e he).f, ((h r hr).e e he).r, ((h r hr).e e he).l, Nat.le_trans ((h r hr).e e he).b hb⟩⟩
theorem ExactChecks_call {n : Nat} (hn : 0 < n) (i : Sid) (M : List Rw) (hM : Fits M) {Q : PV → Nat → List Nat → Prop}
    (hQ : ∀ n' D, n ≤ n' → (∀ x, x ∈ D → n ≤ x) → Q (.bool true) n' D) : PCall Try.prog 3 [.sl i 1 (M.map Rw.pv)] n Q := by
  refine of3 hn ?_
  simp (disch := omega) [c3]
  refine CallK.of (by simp) (CheckM_call hn i M hM ?_)
  simp (disch := omega) []
  refine CallK.of (by simp) (RefCheckM_call hn i M hM ?_)
  simp (disch := omega) []
  refine CallK.of (by simp) (awakeE_call hn fun n' g => ?_)
  simpa (disch := omega) [g] using hQ n' [] g (by simp)
theorem Same_nil {n : Nat} (hn : 0 < n) (i j : Sid) {Q : PV → Nat → List Nat → Prop} (hQ : Q (.bool true) n []) : PCall Try.prog 14 [W false i [], W false j []] n Q :=
  Same_call hn false false i j [] [] (by simp) (by simpa using hQ)
theorem Same_Z {n : Nat} (hn : 0 < n) (i j : Sid) (z : Int) (k : Nat) (hz : sz z k) (hk : k ≤ 100000) {Q : PV → Nat → List Nat → Prop} (hQ : Q (.bool true) n []) : PCall Try.prog 14 [W (decide (z < 0)) i (dig z.natAbs), W (decide (z < 0)) j (dig z.natAbs)] n Q :=
  Same_call hn _ _ i j _ _ (by have := hz.len; omega) (by simpa using hQ)
theorem pick_first {M : List Rw} : (pickR M (List.range M.length)).map Rw.f = M.map Rw.f := by
  unfold pickR
  congr 1
  apply List.ext_getElem?
  intro j
  by_cases h : j < M.length
  · simp [h, List.getD]
  · simp [h]
theorem ExactDets_call {n : Nat} (hn : 0 < n) (i : Sid) (M : List Rw) (hM : Fits M) (hs : Sids n M) {Q : PV → Nat → List Nat → Prop}
    (hQ : ∀ n' D, n ≤ n' → (∀ x, x ∈ D → n ≤ x) → Q (.bool true) n' D) : PCall Try.prog 4 [.sl i 1 (M.map Rw.pv)] n Q := by
  have hQ : ∀ n', n ≤ n' → Q (.bool true) n' [] := fun n' h => hQ n' [] h (by simp)
  have hl := hM.1
  refine of4 hn ?_
  simp (disch := omega) [c4]
  refine CallK.of (by simp) (LightM_call hn i M hM 10 (by omega) ?_)
  cases hlt : lightM 10 M
  · simp (disch := omega) [hlt]
    refine CallK.of (by simp) (awakeE_call hn fun n' g => ?_)
    simpa (disch := omega) [g] using hQ n' g
  · simp (disch := omega) [hlt]
    by_cases hc : chk M = 0
    · obtain ⟨hm, hMl, hw⟩ := mx_of hc hlt hM hs
      by_cases hsh : 0 < M.length ∧ widthR M ≠ M.length
      · obtain ⟨h0, hw1⟩ := hsh
        have hw0 := width_get h0
        refine CallK.of (by simp) (Det_shape hn i M hM hc h0 hw1 ?_)
        simp (disch := omega) []
        refine CallK.of (by simp) (RefCheckM_call hn i M hM ?_)
        simp (disch := omega) [hc, h0, hw0, hw1]
        refine CallK.of (by simp) (Same_nil hn _ _ ?_)
        simp (disch := omega) []
        refine CallK.of (by simp) (awakeE_call hn fun n' g => ?_)
        simpa (disch := omega) [g] using hQ n' g
      · have hw1 : 0 < M.length → widthR M = M.length := fun h => Decidable.byContradiction fun e => hsh ⟨h, e⟩
        refine CallK.of (by simp) (Det_ok hn i M hM hc hm hw1 fun i1 n1 g1 d1 => ?_)
        obtain ⟨z, hz⟩ : ∃ z, z = Dt (M.map Rw.f) (List.range M.length) := ⟨_, rfl⟩
        have hzs : sz z 97 := by rw [hz]; exact sz_Dt6 (fun r hr => sz_num hm M.length r (by rw [List.take_of_length_le (by simp)]; exact hr)) (by simpa using hMl) (by simpa using hMl)
        rw [← hz]
        simp (disch := omega) [g1]
        refine CallK.of (by simp) (RefCheckM_call (by omega) i M hM ?_)
        have rest : ∀ n', n ≤ n' → Q (.bool true) n' [] := hQ
        have tail : ∀ {s : St}, True := fun {_} => trivial
        by_cases h0 : 0 < M.length
        · have hw0 := width_get h0
          have hwl := hw1 h0
          rw [hwl] at hw0
          simp (disch := omega) [hc, h0, hw0, g1]
          refine CallK.of (by simp) (First_call (by omega) M.length (by omega) fun i2 n2 g2 d2 => ?_)
          simp (disch := omega) [g1, g2]
          refine CallK.of (by simp) (RefDet_call (n := n2) M.length i M hMl (List.range M.length) (List.range M.length) rfl (by simpa using hMl) (fun j hj => by simpa using hj) (fun j hj => by simpa using hj) (by omega) i2 i2 (by rw [hwl] at hm; exact hm.mono (by omega)) fun i3 n3 g3 d3 => ?_)
          rw [pick_first, ← hz]
          simp (disch := omega) [g1, g2, g3]
          refine CallK.of (by simp) (Same_Z (by omega) i1 i3 z 97 hzs (by omega) ?_)
          simp (disch := omega) [g1, g2, g3]
          refine CallK.of (by simp) (awakeE_call (by omega) fun n' g => ?_)
          simpa (disch := omega) [show n ≤ n' by omega] using hQ n' (by omega)
        · have hM0 : M = [] := by cases M <;> simp at h0 ⊢
          subst hM0
          simp (disch := omega) [hc, g1]
          refine CallK.of (by simp) (First_call (by omega) 0 (by omega) fun i2 n2 g2 d2 => ?_)
          simp (disch := omega) [g1, g2]
          refine CallK.of (by simp) (RefDet_call (n := n2) 0 i [] (by simp) [] [] rfl (by simp) (by simp) (by simp) (by omega) i2 i2 (fun r hr => by simp at hr) fun i3 n3 g3 d3 => ?_)
          have hz1 : Dt ((pickR [] []).map Rw.f) [] = z := by rw [hz]; rfl
          rw [hz1]
          simp (disch := omega) [g1, g2, g3]
          refine CallK.of (by simp) (Same_Z (by omega) i1 i3 z 97 hzs (by omega) ?_)
          simp (disch := omega) [g1, g2, g3]
          refine CallK.of (by simp) (awakeE_call (by omega) fun n' g => ?_)
          simpa (disch := omega) [show n ≤ n' by omega] using hQ n' (by omega)
    · have hc0 := chk_lt M
      have hc' : (chk M == 0) = false := by simpa using hc
      have hc'' : (chk M != 0) = true := by simpa using hc
      refine CallK.of (by simp) (Det_err hn i M hM hc ?_)
      simp (disch := omega) []
      refine CallK.of (by simp) (RefCheckM_call hn i M hM ?_)
      simp (disch := omega) [hc, hc', hc'']
      refine CallK.of (by simp) (Same_nil hn _ _ ?_)
      simp (disch := omega) []
      refine CallK.of (by simp) (awakeE_call hn fun n' g => ?_)
      simpa (disch := omega) [g] using hQ n' g
theorem ExactRanks_call {n : Nat} (hn : 0 < n) (i : Sid) (hi : i.f < n) (M : List Rw) (hM : Fits M) (hs : Sids n M) {Q : PV → Nat → List Nat → Prop}
    (hQ : ∀ n' D, n ≤ n' → (∀ x, x ∈ D → n ≤ x) → Q (.bool true) n' D) : PCall Try.prog 5 [.sl i 1 (M.map Rw.pv)] n Q := by
  have hQ : ∀ n', n ≤ n' → Q (.bool true) n' [] := fun n' h => hQ n' [] h (by simp)
  refine of5 hn ?_
  simp (disch := omega) [c5]
  refine CallK.of (by simp) (LightM_call hn i M hM 4 (by omega) ?_)
  cases hlt : lightM 4 M
  · simp (disch := omega) [hlt]
    refine CallK.of (by simp) (awakeE_call hn fun n' g => ?_)
    simpa (disch := omega) [g] using hQ n' g
  · simp (disch := omega) [hlt]
    by_cases hc : chk M = 0
    · obtain ⟨hm, hMl, hw⟩ := mx_of hc hlt hM hs
      refine CallK.of (by simp) (Rank_ok hn i M (widthR M) rfl hM hc (hm.le (by omega)) hMl hw fun n1 b g1 hr hb => ?_)
      simp (disch := omega) [g1]
      refine CallK.of (by simp) (RefCheckM_call (by omega) i M hM ?_)
      simp (disch := omega) [g1, hc]
      refine CallK.of (by simp) (RefRank_call (by omega) i (by omega) M (widthR M) 4 rfl (hm.z.mono g1 (Nat.le_refl _)) hMl hw (by omega) fun n2 d g2 hd => ?_)
      have hbd : b = d := hr.unique hd
      subst hbd
      simp (disch := omega) [g1, g2]
      refine CallK.of (by simp) (awakeE_call (by omega) fun n' g => ?_)
      simpa (disch := omega) [show n ≤ n' by omega] using hQ n' (by omega)
    · have hc'' : (chk M != 0) = true := by simpa using hc
      refine CallK.of (by simp) (Rank_err hn i M hM hc ?_)
      simp (disch := omega) []
      refine CallK.of (by simp) (RefCheckM_call hn i M hM ?_)
      simp (disch := omega) [hc, hc'']
      refine CallK.of (by simp) (awakeE_call hn fun n' g => ?_)
      simpa (disch := omega) [g] using hQ n' g
end Go.Proofs.Ytcdkgeeookcoeaa
