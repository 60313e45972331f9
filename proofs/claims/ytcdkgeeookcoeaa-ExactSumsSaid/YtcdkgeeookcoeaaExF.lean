/- Whether rows may be, and are short: the document's answers, by value. -/
import Derived.Test.YtcdkgeeookcoeaaExE
set_option linter.unusedVariables false
set_option linter.unusedSimpArgs false
namespace Go.Proofs.Ytcdkgeeookcoeaa
open Go.Proofs

def RcheckI (i : Sid) (M : List Rw) (n : Nat) (k : Nat) (s : St) : Prop :=
  ∃ j : Nat, j + k = M.length ∧ At s 72 [] n [(0, .sl i 1 (M.map Rw.pv)), (3, .int .i64 j)] ∧ (M.take j).all (rowB (widthR M)) = true
def RcheckR (i : Sid) (M : List Rw) (n : Nat) (k : Nat) (s : St) : Prop :=
  ∃ (j : Nat), j + k = M.length ∧ At s 72 [] n [(0, .sl i 1 (M.map Rw.pv)), (5, .int .i64 j), (4, .bool (lngM (M.take j)))] ∧ rightM (M.take j) = true
def RcheckE (i : Sid) (M : List Rw) (r : Rw) (n j : Nat) (k : Nat) (s : St) : Prop :=
  ∃ (c : Nat), c + k = r.es.length ∧ At s 72 [] n [(0, .sl i 1 (M.map Rw.pv)), (5, .int .i64 j), (4, .bool (lngM (M.take j) || (r.es.take c).any lngE)), (6, .int .i64 c)] ∧ (r.es.take c).all entB = true
theorem RcheckR_loop {n : Nat} (hn : 0 < n) (i : Sid) (M : List Rw) (hM : Fits M) (h0 : ¬ 6 < M.length) (hr : M.all (rowB (widthR M)) = true) {Q : PV → Nat → List Nat → Prop}
    (hQ : Q (.int .i64 (chk M)) n []) (k : Nat) (s : St) (h : RcheckR i M n k s) : GO Try.prog (.loop c10L2)
    (PExit.inBlock 2 (PExit.then (GO Try.prog c10R1 (fin Try.prog [.tmp 2] n Q)) (fin Try.prog [.tmp 2] n Q))) s := by
  obtain ⟨hM, hM2⟩ := hM
  refine GO_loopN (RcheckR i M n) k h ?_
  clear h s k
  rintro k s ⟨j, hj, ⟨e1, e2, e3, e4, e5⟩, hrt⟩
  simp at e5
  obtain ⟨e5, e6, e7⟩ := e5
  by_cases hk : j < M.length
  · obtain ⟨r, hr0⟩ : ∃ r, r = M[j] := ⟨_, rfl⟩
    obtain ⟨q1, q2⟩ := hM2 r (by rw [hr0]; exact List.getElem_mem _)
    simp (disch := omega) [c10L2, e1, e2, e3, e4, e5, e6, e7, hk, ← hr0]
    refine GO_loopN (RcheckE i M r n j) r.es.length ⟨0, by omega, by simp [At, e1, e2, e3, e4, e5, e6, e7], by simp⟩ ?_
    rintro k2 s2 ⟨c, hc, ⟨f1, f2, f3, f4, f5⟩, hre⟩
    simp at f5
    obtain ⟨f5, f6, f7, f8⟩ := f5
    by_cases hk2 : c < r.es.length
    · obtain ⟨e, he0⟩ : ∃ e, e = r.es[c] := ⟨_, rfl⟩
      obtain ⟨p1, p2⟩ := q2 e (by rw [he0]; exact List.getElem_mem _)
      simp (disch := omega) [c10L1, f1, f2, f3, f4, f5, f6, f7, f8, hk, ← hr0, hk2, ← he0]
      refine CallK.of (by simp) (Right_call hn e.n e.i e.l (by omega) ?_)
      by_cases hb : rightW e.n e.l = true
      · have hal := all_take (p := entB) hk2 hre (by rw [← he0]; exact hb)
        have han := any_take (p := lngE) hk2
        rw [← he0] at han
        by_cases hlg : (lngM (M.take j) || (r.es.take c).any lngE) = true
        · rw [hlg] at f7
          simp (disch := omega) [hb, f1, f2, f3, f4, f5, f6, f7, f8, hk, ← hr0, hk2, ← he0]
          exact ⟨k2 - 1, by omega, c + 1, by omega, by simp [At, f1, f2, f3, f4, f5, f6, f7, f8, han, ← Bool.or_assoc, hlg], hal⟩
        · rw [Bool.not_eq_true] at hlg
          rw [hlg] at f7
          simp (disch := omega) [hb, f1, f2, f3, f4, f5, f6, f7, f8, hk, ← hr0, hk2, ← he0]
          exact ⟨k2 - 1, by omega, c + 1, by omega, by simp [At, f1, f2, f3, f4, f5, f6, f7, f8, han, ← Bool.or_assoc, hlg, lngE], hal⟩
      · rw [chk_right h0 hr (all_bad hk (by rw [← hr0]; exact all_bad hk2 (by rw [← he0]; exact hb)))] at hQ
        simpa (disch := omega) [hb, f1, f2, f3, f4, f5, f6, f7, f8] using hQ
    · have hcl : c = r.es.length := by omega
      subst hcl
      rw [List.take_length] at hre f7
      have han : lngM (M.take (j + 1)) = (lngM (M.take j) || r.es.any lngE) := by unfold lngM; rw [any_take hk, ← hr0]
      simp (disch := omega) [c10L1, c10R0, f1, f2, f3, f4, f5, f6, f7, f8, hk, ← hr0, hk2]
      exact ⟨k - 1, by omega, j + 1, by omega, by simp [At, f1, f2, f3, f4, f5, f6, f7, f8, han], all_take hk hrt (by rw [← hr0]; exact hre)⟩
  · have hjM : j = M.length := by omega
    subst hjM
    rw [List.take_length] at hrt e7
    rw [chk_end h0 hr hrt] at hQ
    cases hlg : lngM M
    · rw [hlg] at e7 hQ
      simpa (disch := omega) [c10L2, c10R1, e1, e2, e3, e4, e5, e6, e7] using hQ
    · rw [hlg] at e7 hQ
      simpa (disch := omega) [c10L2, c10R1, e1, e2, e3, e4, e5, e6, e7] using hQ
theorem RefCheckM_call {n : Nat} (hn : 0 < n) (i : Sid) (M : List Rw) (hM' : Fits M) {Q : PV → Nat → List Nat → Prop}
    (hQ : Q (.int .i64 (chk M)) n []) : PCall Try.prog 10 [.sl i 1 (M.map Rw.pv)] n Q := by
  obtain ⟨hM, hM2⟩ := hM'
  refine of10 hn ?_
  by_cases h0 : 6 < M.length
  · rw [chk_many h0] at hQ
    simpa (disch := omega) [c10, h0] using hQ
  simp (disch := omega) [c10, h0]
  refine GO_loopN (RcheckI i M n) M.length ⟨0, by omega, by simp [At], by simp⟩ ?_
  rintro k s ⟨j, hj, ⟨e1, e2, e3, e4, e5⟩, hr⟩
  simp at e5
  obtain ⟨e5, e6⟩ := e5
  by_cases hk : j < M.length
  · obtain ⟨r, hr0⟩ : ∃ r, r = M[j] := ⟨_, rfl⟩
    obtain ⟨q1, q2⟩ := hM2 r (by rw [hr0]; exact List.getElem_mem _)
    have hw := width_get (M := M) (by omega)
    have hM0 : 0 < M.length := by omega
    obtain ⟨L0, hL0⟩ : ∃ L0, L0 = widthR M := ⟨_, rfl⟩
    have hwl : M[0].es.length < 35184372088800 := (hM2 _ (List.getElem_mem _)).1
    rw [← hL0] at hw
    rw [hw] at hwl
    by_cases h1 : 6 < r.es.length
    · rw [chk_row (all_bad hk (by rw [← hr0]; simp [rowB]; omega))] at hQ
      simpa (disch := omega) [c10L0, e1, e2, e3, e4, e5, e6, hk, ← hr0, h1] using hQ
    · by_cases h2 : r.es.length = L0
      · have hne : binPV Try.prog .neq 3 (.int .i64 (r.es.length : Int)) (.int .i64 (L0 : Int)) = some (.bool false) := by rw [binPV_neq, h2]; simp
        simp (disch := omega) [-binPV_neq, c10L0, e1, e2, e3, e4, e5, e6, hk, ← hr0, h1, hM0, hw, hne]
        exact ⟨k - 1, by omega, j + 1, by omega, by simp [At, e1, e2, e3, e4, e5, e6], all_take hk hr (by rw [← hr0]; simp [rowB]; omega)⟩
      · rw [chk_row (all_bad hk (by rw [← hr0]; simp [rowB]; omega))] at hQ
        simpa (disch := omega) [c10L0, e1, e2, e3, e4, e5, e6, hk, ← hr0, h1, hM0, hw, h2] using hQ
  · have hjM : j = M.length := by omega
    subst hjM
    rw [List.take_length] at hr
    simp (disch := omega) [c10L0, c10R2, e1, e2, e3, e4, e5, e6]
    exact RcheckR_loop hn i M ⟨hM, hM2⟩ h0 hr hQ M.length _ ⟨0, by omega, by simp [At, e1, e2, e3, e4, e5, e6, lngM], by simp [rightM]⟩

/-! ### are all short? -/
def shortE (m : Nat) (e : Ent) : Bool := !(decide (m < e.l.length) && rightW e.n e.l)
def lightM (m : Nat) (M : List Rw) : Bool := M.all fun r => r.es.all (shortE m)
def LightI (i : Sid) (M : List Rw) (m n : Nat) (k : Nat) (s : St) : Prop :=
  ∃ (j : Nat), j + k = M.length ∧ At s 43 [] n [(0, .sl i 1 (M.map Rw.pv)), (1, .int .i64 m), (5, .int .i64 j)] ∧ lightM m (M.take j) = true
def LightE (i : Sid) (M : List Rw) (r : Rw) (m n j : Nat) (k : Nat) (s : St) : Prop :=
  ∃ (c : Nat), c + k = r.es.length ∧ At s 43 [] n [(0, .sl i 1 (M.map Rw.pv)), (1, .int .i64 m), (5, .int .i64 j), (6, .int .i64 c)] ∧ (r.es.take c).all (shortE m) = true
theorem LightM_call {n : Nat} (hn : 0 < n) (i : Sid) (M : List Rw) (hM' : Fits M) (m : Nat) (hm : m < 1000) {Q : PV → Nat → List Nat → Prop}
    (hQ : Q (.bool (lightM m M)) n []) : PCall Try.prog 12 [.sl i 1 (M.map Rw.pv), .int .i64 m] n Q := by
  obtain ⟨hM, hM2⟩ := hM'
  refine of12 hn ?_
  simp (disch := omega) [c12]
  refine GO_loopN (LightI i M m n) M.length ⟨0, by omega, by simp [At], by simp [lightM]⟩ ?_
  rintro k s ⟨j, hj, ⟨e1, e2, e3, e4, e5⟩, hr⟩
  simp at e5
  obtain ⟨e5, e6, e7⟩ := e5
  by_cases hk : j < M.length
  · obtain ⟨r, hr0⟩ : ∃ r, r = M[j] := ⟨_, rfl⟩
    obtain ⟨q1, q2⟩ := hM2 r (by rw [hr0]; exact List.getElem_mem _)
    simp (disch := omega) [c12L1, e1, e2, e3, e4, e5, e6, e7, hk, ← hr0]
    refine GO_loopN (LightE i M r m n j) r.es.length ⟨0, by omega, by simp [At, e1, e2, e3, e4, e5, e6, e7], by simp⟩ ?_
    rintro k2 s2 ⟨c, hc, ⟨f1, f2, f3, f4, f5⟩, hre⟩
    simp at f5
    obtain ⟨f5, f6, f7, f8⟩ := f5
    by_cases hk2 : c < r.es.length
    · obtain ⟨e, he0⟩ : ∃ e, e = r.es[c] := ⟨_, rfl⟩
      obtain ⟨p1, p2⟩ := q2 e (by rw [he0]; exact List.getElem_mem _)
      by_cases hl : m < e.l.length
      · simp (disch := omega) [c12L0, f1, f2, f3, f4, f5, f6, f7, f8, hk, ← hr0, hk2, ← he0, hl]
        refine CallK.of (by simp) (Right_call hn e.n e.i e.l (by omega) ?_)
        by_cases hb : rightW e.n e.l = true
        · have : lightM m M = false := by
            rw [← Bool.not_eq_true]
            exact all_bad hk (by rw [← hr0]; exact all_bad hk2 (by rw [← he0]; simp [shortE, hl, hb]))
          rw [this] at hQ
          simpa (disch := omega) [hb, f1, f2, f3, f4, f5, f6, f7, f8] using hQ
        · simp (disch := omega) [hb, f1, f2, f3, f4, f5, f6, f7, f8]
          exact ⟨k2 - 1, by omega, c + 1, by omega, by simp [At, f1, f2, f3, f4, f5, f6, f7, f8], all_take hk2 hre (by rw [← he0]; simp [shortE, hb])⟩
      · simp (disch := omega) [c12L0, f1, f2, f3, f4, f5, f6, f7, f8, hk, ← hr0, hk2, ← he0, hl]
        exact ⟨k2 - 1, by omega, c + 1, by omega, by simp [At, f1, f2, f3, f4, f5, f6, f7, f8], all_take hk2 hre (by rw [← he0]; simp [shortE, hl])⟩
    · have hcl : c = r.es.length := by omega
      subst hcl
      rw [List.take_length] at hre
      simp (disch := omega) [c12L0, c12R0, f1, f2, f3, f4, f5, f6, f7, f8, hk, ← hr0, hk2]
      exact ⟨k - 1, by omega, j + 1, by omega, by simp [At, f1, f2, f3, f4, f5, f6, f7, f8], all_take hk hr (by rw [← hr0]; exact hre)⟩
  · have hjM : j = M.length := by omega
    subst hjM
    rw [List.take_length] at hr
    rw [hr] at hQ
    simpa (disch := omega) [c12L1, c12R1, e1, e2, e3, e4, e5, e6, e7] using hQ
end Go.Proofs.Ytcdkgeeookcoeaa
