/- What the functions of layer 1 do, by value: the program's own, part one. -/
import Derived.Test.YtdaoblhmnafllaaDoorCdA
import Derived.Test.YtdaoblhmnafllaaDoorLwA
set_option linter.unusedVariables false
set_option linter.unusedSimpArgs false
namespace Go.Proofs.YtdaoblhmnafllaaDoor
open Go.Proofs

theorem Same_call {n : Nat} (hn : 0 < n) (na nb : Bool) (ia ib : Sid) (a b : List Nat) (ha : a.length < 1152921504606846976) {Q : PV → Nat → List Nat → Prop} (hQ : Q (.bool (na == nb && decide (a = b))) n []) : PCall Tryd.prog 39 [W na ia a, W nb ib b] n Q := by
  refine of39 hn ?_
  by_cases h1 : na = nb
  · by_cases h2 : a.length = b.length
    · subst h1
      simp [c39, h2]
      refine GO_loopN (fun k s => ∃ i : Nat, i + k = b.length ∧ At s 38 [[.bool na, .sl ia 1 (u32s a)], [.bool na, .sl ib 1 (u32s b)]] n [(2, .box 0 0), (3, .box 1 0), (5, .int .i64 i)] ∧ a.take i = b.take i) b.length ?_ ?_
      · refine ⟨0, by omega, ?_, by simp⟩
        simp [At]
      · rintro k s ⟨i, hi, ⟨e1, e2, e3, e4, e5⟩, ht⟩
        simp at e5
        obtain ⟨e5, e6, e7⟩ := e5
        by_cases hk : i < b.length
        · by_cases hx : a[i] = b[i]
          · simp (disch := omega) [c39L0, e1, e2, e3, e4, e5, e6, e7, hk, h2, hx]
            refine ⟨k - 1, by omega, i + 1, by omega, ?_, ?_⟩
            · simp [At, e1, e2, e3, e4, e5, e6, e7]
            · rw [List.take_succ_eq_append_getElem (by omega), List.take_succ_eq_append_getElem (by omega), ht, hx]
          · have : ¬ a = b := fun e => hx (by simp [e])
            simp [this] at hQ
            simpa (disch := omega) [c39L0, e1, e2, e3, e4, e5, e6, e7, hk, h2, hx] using hQ
        · rw [List.take_of_length_le (by omega), List.take_of_length_le (by omega)] at ht
          simp [ht] at hQ
          simpa [c39L0, c39R0, e1, e2, e3, e4, e5, e6, e7, hk, h2] using hQ
    · have : ¬ a = b := fun e => h2 (by rw [e])
      simp [this] at hQ
      simpa [c39, h1, h2] using hQ
  · cases na <;> cases nb <;> simp at h1 <;> simpa [c39] using hQ

/-- Is a number right? -/
def rightW (neg : Bool) (l : List Nat) : Bool := decide (l.length ≤ 512) && !(decide (l.length = 0) && neg) && decide (topOk l)

theorem Check_call {n : Nat} (hn : 0 < n) (neg : Bool) (i : Sid) (l : List Nat) (hl : l.length < 9223372036854775808) {Q : PV → Nat → List Nat → Prop} (hQ : Q (.int .i64 (if rightW neg l then 0 else 1)) n []) : PCall Tryd.prog 63 [W neg i l] n Q := by
  refine of63 hn ?_
  by_cases h1 : 512 < l.length
  · have : rightW neg l = false := by simp [rightW]; omega
    simpa [c63, h1, this] using hQ
  · by_cases h2 : l.length = 0
    · have e := List.length_eq_zero_iff.1 h2
      subst e
      cases neg <;> simpa [c63, rightW, topOk] using hQ
    · have h3 : 0 < l.length := by omega
      have h4 : l.length - 1 < l.length := by omega
      by_cases h5 : l[l.length - 1] = 0
      · have : rightW neg l = false := by simp [rightW, topOk, h5, List.getElem?_eq_getElem h4]
        simpa (disch := omega) [c63, h1, h2, h3, h4, h5, this] using hQ
      · have : rightW neg l = true := by simp [rightW, topOk, h5, h2, List.getElem?_eq_getElem h4]; omega
        simpa (disch := omega) [c63, h1, h2, h3, h4, h5, this] using hQ

theorem Right_call {n : Nat} (hn : 0 < n) (neg : Bool) (i : Sid) (l : List Nat) (hl : l.length < 9223372036854775808) {Q : PV → Nat → List Nat → Prop} (hQ : Q (.bool (rightW neg l)) n []) : PCall Tryd.prog 43 [W neg i l] n Q := by
  refine of43 hn ?_
  by_cases h1 : 512 < l.length
  · have : rightW neg l = false := by simp [rightW]; omega
    simpa [c43, h1, this] using hQ
  · by_cases h2 : l.length = 0
    · have e := List.length_eq_zero_iff.1 h2
      subst e
      cases neg <;> simpa [c43, rightW, topOk] using hQ
    · have h3 : 0 < l.length := by omega
      have h4 : l.length - 1 < l.length := by omega
      by_cases h5 : l[l.length - 1] = 0
      · have : rightW neg l = false := by simp [rightW, topOk, h5, List.getElem?_eq_getElem h4]
        simpa (disch := omega) [c43, h1, h2, h3, h4, h5, this] using hQ
      · have : rightW neg l = true := by simp [rightW, topOk, h5, h2, List.getElem?_eq_getElem h4]; omega
        simpa (disch := omega) [c43, h1, h2, h3, h4, h5, this] using hQ
end Go.Proofs.YtdaoblhmnafllaaDoor
