/- The law SoftRounds, by value. -/
import Derived.Test.YtdaoblhmnafllaaDoorSrC
set_option linter.unusedVariables false
set_option linter.unusedSimpArgs false
set_option maxHeartbeats 2000000
set_option maxRecDepth 20000
namespace Go.Proofs.YtdaoblhmnafllaaDoor
open Go.Proofs

theorem Rounds_call {n : Nat} (hn : 0 < n) (neg : Bool) (i : Sid) (hi : i.f < n) (l : List Nat) (E : Int) (hl : l.length < 35184372088800) (ll : Lim l) : PCall Tryd.prog 5 [D neg i l E] n (fun v _ D => v = .bool true ∧ D = []) := by
  refine of5 hn ?_
  cases hr : rightD neg l E
  · by_cases h60 : 60 < l.length
    · simp (disch := omega) [c5, h60]
      refine CallK.of (by simp) (RightD_call hn neg i l E hl ll ?_)
      simp (disch := omega) [hr]
      refine CallK.of (by simp) (Round_call hn neg i hi l E hl ll (fun _ => ?_) (fun h => by rw [hr] at h; cases h) (fun h => by rw [hr] at h; cases h))
      simp (disch := omega) []
      refine CallK.of (by simp) (RightD_call hn neg i l E hl ll ?_)
      simp (disch := omega) [hr]
      refine CallK.of (by simp) (awake_call hn fun n' g => ?_)
      (simp (disch := omega) [g] <;> omega)
    · simp (disch := omega) [c5, h60]
      refine CallK.of (by simp) (Round_call hn neg i hi l E hl ll (fun _ => ?_) (fun h => by rw [hr] at h; cases h) (fun h => by rw [hr] at h; cases h))
      simp (disch := omega) []
      refine CallK.of (by simp) (RightD_call hn neg i l E hl ll ?_)
      simp (disch := omega) [hr]
      refine CallK.of (by simp) (awake_call hn fun n' g => ?_)
      (simp (disch := omega) [g] <;> omega)
  · by_cases h60 : 60 < l.length
    · simp (disch := omega) [c5, h60]
      refine CallK.of (by simp) (RightD_call hn neg i l E hl ll ?_)
      simp (disch := omega) [hr]
      refine CallK.of (by simp) (awake_call hn fun n' g => ?_)
      (simp (disch := omega) [g] <;> omega)
    · simp (disch := omega) [c5, h60]
      refine CallK.of (by simp) (Round_call hn neg i hi l E hl ll (fun h => by rw [hr] at h; cases h) (fun _ h0 n1 g1 => ?_) (fun _ h0 n1 g1 => ?_))
      · simp (disch := omega) [g1]
        refine CallK.of (by simp) (RightD_call (by omega) neg i l E hl ll ?_)
        simp (disch := omega) [hr, g1]
        refine CallK.of (by simp) (RefRound_call (by omega) neg i (by omega) l E (by omega) ll hr (fun _ n2 g2 => ?_) (fun h => absurd h0 h))
        simp (disch := omega) [g1, g2]
        refine CallK.of (by simp) (awake_call (by omega) fun n' g => ?_)
        (simp (disch := omega) [g, g1, g2] <;> omega)
      · simp (disch := omega) [g1]
        refine CallK.of (by simp) (RightD_call (by omega) neg i l E hl ll ?_)
        simp (disch := omega) [hr, g1]
        refine CallK.of (by simp) (RefRound_call (by omega) neg i (by omega) l E (by omega) ll hr (fun h => absurd h h0) (fun _ n2 g2 => ?_))
        simp (disch := omega) [g1, g2]
        refine CallK.of (by simp) (awake_call (by omega) fun n' g => ?_)
        (simp (disch := omega) [g, g1, g2] <;> omega)
end Go.Proofs.YtdaoblhmnafllaaDoor
