/- The next number above; how far a number is from one: by value. -/
import Derived.Test.YtdaoblhmnafllaaDoorSrD
set_option linter.unusedVariables false
set_option linter.unusedSimpArgs false
set_option maxHeartbeats 2000000
set_option maxRecDepth 20000
namespace Go.Proofs.YtdaoblhmnafllaaDoor
open Go.Proofs

def upB (b : Nat) : Nat := if kindB b = 4 then b else if b = 9218868437227405312 then b else if b = 9223372036854775808 then 1 else if bN b = true then b - 1 else b + 1
theorem Up_call {n : Nat} (hn : 0 < n) (b : Nat) (hb : b < 18446744073709551616) {Q : PV → Nat → List Nat → Prop} (hQ : Q (.int .u64 (upB b : Nat)) n []) : PCall Tryd.prog 29 [.int .u64 b] n Q := by
  refine of29 hn ?_
  unfold upB at hQ
  simp (disch := omega) [c29]
  refine CallK.of (by simp) (Kind_call hn b hb ?_)
  by_cases h1 : kindB b = 4
  · rw [if_pos h1] at hQ
    simpa (disch := omega) [h1] using hQ
  · have h1' : (kindB b == 4) = false := by simpa using h1
    rw [if_neg h1] at hQ
    by_cases h2 : b = 9218868437227405312
    · subst h2
      rw [if_pos rfl] at hQ
      simpa (disch := omega) [h1'] using hQ
    · rw [if_neg h2] at hQ
      by_cases h3 : b = 9223372036854775808
      · subst h3
        rw [if_pos rfl] at hQ
        simpa (disch := omega) [h1'] using hQ
      · rw [if_neg h3] at hQ
        simp (disch := omega) [h1', h2, h3]
        refine CallK.of (by simp) (Sign_call hn b hb ?_)
        cases h4 : bN b
        · rw [h4] at hQ
          simp only [Bool.false_eq_true, if_false] at hQ
          have hlt : b < 9223372036854775808 := by unfold bN at h4; simpa using h4
          have hw : IntKind.u64.wrap ((b : Int) + 1) = ((b + 1 : Nat) : Int) := by rw [wrap_u64_at _ (by omega)]; omega
          obtain ⟨c, hc⟩ : ∃ c, c = b + 1 := ⟨_, rfl⟩
          rw [← hc] at hw hQ
          simpa (disch := omega) [-wrap_u64_at, h4, hw] using hQ
        · rw [h4] at hQ
          simp only [if_true] at hQ
          have hge : 9223372036854775808 ≤ b := by unfold bN at h4; simpa using h4
          have hw : IntKind.u64.wrap ((b : Int) - 1) = ((b - 1 : Nat) : Int) := by rw [wrap_u64_at _ (by omega)]; omega
          obtain ⟨c, hc⟩ : ∃ c, c = b - 1 := ⟨_, rfl⟩
          rw [← hc] at hw hQ
          simpa (disch := omega) [-wrap_u64_at, h4, hw] using hQ
end Go.Proofs.YtdaoblhmnafllaaDoor
