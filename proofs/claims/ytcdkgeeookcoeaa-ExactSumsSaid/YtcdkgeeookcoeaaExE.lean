/- Whether rows may be: the program's answer and the document's, by value. -/
import Derived.Test.YtcdkgeeookcoeaaExD
set_option linter.unusedVariables false
set_option linter.unusedSimpArgs false
namespace Go.Proofs.Ytcdkgeeookcoeaa
open Go.Proofs

def rowB (w : Nat) (r : Rw) : Bool := decide (r.es.length ≤ 6) && decide (r.es.length = w)
def entB (e : Ent) : Bool := rightW e.n e.l
def rightM (M : List Rw) : Bool := M.all fun r => r.es.all entB
def lngE (e : Ent) : Bool := decide (80 < e.l.length)
def lngM (M : List Rw) : Bool := M.any fun r => r.es.any lngE
def chk (M : List Rw) : Int := if 6 < M.length then 3 else if M.all (rowB (widthR M)) = true then (if rightM M = true then (if lngM M = true then 2 else 0) else 1) else 3
/-- Sizes that there can be. -/
def Fits (M : List Rw) : Prop := M.length < 35184372088800 ∧ ∀ r, r ∈ M → r.es.length < 35184372088800 ∧ ∀ e, e ∈ r.es → e.l.length < 35184372088800 ∧ Lim e.l
theorem all_take {α : Type} {l : List α} {p : α → Bool} {j : Nat} (hj : j < l.length) (h : (l.take j).all p = true) (hx : p l[j] = true) : (l.take (j + 1)).all p = true := by
  rw [List.take_add_one, List.getElem?_eq_getElem hj, List.all_append, h]; simp [hx]
theorem all_bad {α : Type} {l : List α} {p : α → Bool} {j : Nat} (hj : j < l.length) (hx : ¬ p l[j] = true) : ¬ l.all p = true := fun h => hx (List.all_eq_true.1 h _ (List.getElem_mem hj))
theorem any_take {α : Type} {l : List α} {p : α → Bool} {j : Nat} (hj : j < l.length) : (l.take (j + 1)).any p = ((l.take j).any p || p l[j]) := by
  rw [List.take_add_one, List.getElem?_eq_getElem hj, List.any_append]; simp
theorem width_get {M : List Rw} (h : 0 < M.length) : M[0].es.length = widthR M := by
  cases M with
  | nil => simp at h
  | cons r M => rfl
theorem chk_many {M : List Rw} (h : 6 < M.length) : chk M = 3 := by unfold chk; rw [if_pos h]
theorem chk_row {M : List Rw} (h : ¬ M.all (rowB (widthR M)) = true) : chk M = 3 := by
  unfold chk; rw [if_neg h]; split <;> rfl
theorem chk_right {M : List Rw} (h0 : ¬ 6 < M.length) (h : M.all (rowB (widthR M)) = true) (h1 : ¬ rightM M = true) : chk M = 1 := by unfold chk; rw [if_neg h0, if_pos h, if_neg h1]
theorem chk_end {M : List Rw} (h0 : ¬ 6 < M.length) (h : M.all (rowB (widthR M)) = true) (h1 : rightM M = true) : chk M = if lngM M = true then 2 else 0 := by unfold chk; rw [if_neg h0, if_pos h, if_pos h1]

def checkI (i : Sid) (M : List Rw) (n : Nat) (k : Nat) (s : St) : Prop :=
  ∃ j : Nat, j + k = M.length ∧ At s 57 [] n [(0, .sl i 1 (M.map Rw.pv)), (13, .sl i 1 (M.map Rw.pv)), (14, .int .i64 M.length), (15, .int .i64 j)] ∧ (M.take j).all (rowB (widthR M)) = true
def checkR (i : Sid) (M : List Rw) (n : Nat) (k : Nat) (s : St) : Prop :=
  ∃ (j : Nat) (B : List (List PV)), j + k = M.length ∧ At s 57 B n [(0, .sl i 1 (M.map Rw.pv)), (32, .sl i 1 (M.map Rw.pv)), (33, .int .i64 M.length), (34, .int .i64 j), (5, .bool (lngM (M.take j)))] ∧ rightM (M.take j) = true
def checkE (i : Sid) (M : List Rw) (r : Rw) (n j : Nat) (k : Nat) (s : St) : Prop :=
  ∃ (c : Nat) (B : List (List PV)), c + k = r.es.length ∧ At s 57 B n [(0, .sl i 1 (M.map Rw.pv)), (32, .sl i 1 (M.map Rw.pv)), (33, .int .i64 M.length), (34, .int .i64 j), (5, .bool (lngM (M.take j) || (r.es.take c).any lngE)), (38, r.pv), (39, .int .i64 r.es.length), (40, .int .i64 c)] ∧ (r.es.take c).all entB = true
theorem checkR_loop {n : Nat} (hn : 0 < n) (i : Sid) (M : List Rw) (hM : Fits M) (h0 : ¬ 6 < M.length) (hr : M.all (rowB (widthR M)) = true) {Q : PV → Nat → List Nat → Prop}
    (hQ : Q (.int .i64 (chk M)) n []) (k : Nat) (s : St) (h : checkR i M n k s) : GO Try.prog (.loop c9L2)
    (PExit.inBlock 2 (PExit.then (GO Try.prog c9R1 (fin Try.prog [.tmp 2] n Q)) (fin Try.prog [.tmp 2] n Q))) s := by
  obtain ⟨hM, hM2⟩ := hM
  refine GO_loopN (checkR i M n) k h ?_
  clear h s k
  rintro k s ⟨j, B, hj, ⟨e1, e2, e3, e4, e5⟩, hrt⟩
  simp at e5
  obtain ⟨e5, e6, e7, e8, e9⟩ := e5
  by_cases hk : j < M.length
  · obtain ⟨r, hr0⟩ : ∃ r, r = M[j] := ⟨_, rfl⟩
    obtain ⟨q1, q2⟩ := hM2 r (by rw [hr0]; exact List.getElem_mem _)
    simp (disch := omega) [c9L2, e1, e2, e3, e4, e5, e6, e7, e8, e9, hk, ← hr0]
    refine GO_loopN (checkE i M r n j) r.es.length ⟨0, B, by omega, by simp [At, e1, e2, e3, e4, e5, e6, e7, e8, e9], by simp⟩ ?_
    rintro k2 s2 ⟨c, B2, hc, ⟨f1, f2, f3, f4, f5⟩, hre⟩
    simp at f5
    obtain ⟨f5, f6, f7, f8, f9, f10, f11, f12⟩ := f5
    by_cases hk2 : c < r.es.length
    · obtain ⟨e, he0⟩ : ∃ e, e = r.es[c] := ⟨_, rfl⟩
      obtain ⟨p1, p2⟩ := q2 e (by rw [he0]; exact List.getElem_mem _)
      simp (disch := omega) [c9L1, f1, f2, f3, f4, f5, f6, f7, f8, f9, f10, f11, f12, hk2, ← he0]
      refine CallK.of (by simp) (Check_call hn e.n e.i e.l (by omega) ?_)
      by_cases hb : rightW e.n e.l = true
      · have hal := all_take (p := entB) hk2 hre (by rw [← he0]; exact hb)
        have han := any_take (p := lngE) hk2
        rw [← he0] at han
        by_cases hlg : (lngM (M.take j) || (r.es.take c).any lngE) = true
        · rw [hlg] at f9
          simp (disch := omega) [hb, f1, f2, f3, f4, f5, f6, f7, f8, f9, f10, f11, f12]
          exact ⟨k2 - 1, by omega, c + 1, B2 ++ [[PV.bool e.n, PV.sl e.i 1 (u32s e.l)]], by omega, by simp [At, f1, f2, f3, f4, f5, f6, f7, f8, f9, f10, f11, f12, han, ← Bool.or_assoc, hlg], hal⟩
        · rw [Bool.not_eq_true] at hlg
          rw [hlg] at f9
          simp (disch := omega) [hb, f1, f2, f3, f4, f5, f6, f7, f8, f9, f10, f11, f12]
          exact ⟨k2 - 1, by omega, c + 1, B2 ++ [[PV.bool e.n, PV.sl e.i 1 (u32s e.l)]], by omega, by simp [At, f1, f2, f3, f4, f5, f6, f7, f8, f9, f10, f11, f12, han, ← Bool.or_assoc, hlg, lngE], hal⟩
      · rw [chk_right h0 hr (all_bad hk (by rw [← hr0]; exact all_bad hk2 (by rw [← he0]; exact hb)))] at hQ
        simpa (disch := omega) [hb, f1, f2, f3, f4, f5, f6, f7, f8, f9, f10, f11, f12] using hQ
    · have hcl : c = r.es.length := by omega
      subst hcl
      rw [List.take_length] at hre f9
      have han : lngM (M.take (j + 1)) = (lngM (M.take j) || r.es.any lngE) := by unfold lngM; rw [any_take hk, ← hr0]
      simp (disch := omega) [c9L1, c9R0, f1, f2, f3, f4, f5, f6, f7, f8, f9, f10, f11, f12, hk2]
      exact ⟨k - 1, by omega, j + 1, B2, by omega, by simp [At, f1, f2, f3, f4, f5, f6, f7, f8, f9, f10, f11, f12, han], all_take hk hrt (by rw [← hr0]; exact hre)⟩
  · have hjM : j = M.length := by omega
    subst hjM
    rw [List.take_length] at hrt e9
    rw [chk_end h0 hr hrt] at hQ
    cases hlg : lngM M
    · rw [hlg] at e9 hQ
      simpa (disch := omega) [c9L2, c9R1, e1, e2, e3, e4, e5, e6, e7, e8, e9] using hQ
    · rw [hlg] at e9 hQ
      simpa (disch := omega) [c9L2, c9R1, e1, e2, e3, e4, e5, e6, e7, e8, e9] using hQ
theorem CheckM_call {n : Nat} (hn : 0 < n) (i : Sid) (M : List Rw) (hM' : Fits M) {Q : PV → Nat → List Nat → Prop}
    (hQ : Q (.int .i64 (chk M)) n []) : PCall Try.prog 9 [.sl i 1 (M.map Rw.pv)] n Q := by
  obtain ⟨hM, hM2⟩ := hM'
  refine of9 hn ?_
  by_cases h0 : 6 < M.length
  · rw [chk_many h0] at hQ
    simpa (disch := omega) [c9, h0] using hQ
  simp (disch := omega) [c9, h0]
  refine GO_loopN (checkI i M n) M.length ⟨0, by omega, by simp [At], by simp⟩ ?_
  rintro k s ⟨j, hj, ⟨e1, e2, e3, e4, e5⟩, hr⟩
  simp at e5
  obtain ⟨e5, e6, e7, e8⟩ := e5
  by_cases hk : j < M.length
  · obtain ⟨r, hr0⟩ : ∃ r, r = M[j] := ⟨_, rfl⟩
    obtain ⟨q1, q2⟩ := hM2 r (by rw [hr0]; exact List.getElem_mem _)
    have hw := width_get (M := M) (by omega)
    have hM0 : 0 < M.length := by omega
    obtain ⟨L0, hL0⟩ : ∃ L0, L0 = widthR M := ⟨_, rfl⟩
    have hwl : M[0].es.length < 35184372088800 := (hM2 _ (List.getElem_mem _)).1
    rw [← hL0] at hw
    rw [hw] at hwl
    by_cases h1 : 6 < r.es.length
    · rw [chk_row (all_bad hk (by rw [← hr0]; simp [rowB]; omega))] at hQ
      simpa (disch := omega) [c9L0, e1, e2, e3, e4, e5, e6, e7, e8, hk, ← hr0, h1] using hQ
    · by_cases h2 : r.es.length = L0
      · have hne : binPV Try.prog .neq 3 (.int .i64 (r.es.length : Int)) (.int .i64 (L0 : Int)) = some (.bool false) := by rw [binPV_neq, h2]; simp
        simp (disch := omega) [-binPV_neq, c9L0, e1, e2, e3, e4, e5, e6, e7, e8, hk, ← hr0, h1, hM0, hw, hne]
        exact ⟨k - 1, by omega, j + 1, by omega, by simp [At, e1, e2, e3, e4, e5, e6, e7, e8], all_take hk hr (by rw [← hr0]; simp [rowB]; omega)⟩
      · rw [chk_row (all_bad hk (by rw [← hr0]; simp [rowB]; omega))] at hQ
        simpa (disch := omega) [c9L0, e1, e2, e3, e4, e5, e6, e7, e8, hk, ← hr0, h1, hM0, hw, h2] using hQ
  · have hjM : j = M.length := by omega
    subst hjM
    rw [List.take_length] at hr
    simp (disch := omega) [c9L0, c9R2, e1, e2, e3, e4, e5, e6, e7, e8]
    exact checkR_loop hn i M ⟨hM, hM2⟩ h0 hr hQ M.length _ ⟨0, [], by omega, by simp [At, e1, e2, e3, e4, e5, e6, e7, e8, lngM], by simp [rightM]⟩
end Go.Proofs.Ytcdkgeeookcoeaa
