/- Sums, and the number of a place, by value. -/
import Derived.Test.YtphndngifjgeoaaGreatDoorCyG
set_option linter.unusedVariables false
set_option linter.unusedSimpArgs false
set_option maxRecDepth 20000
set_option maxHeartbeats 4000000
namespace Go.Proofs.YtphndngifjgeoaaGreatDoor
open Go.Proofs

/-! ### sums -/
theorem sumN_add (f g : Nat → Int) : ∀ n : Nat, sumN (fun q => f q + g q) n = sumN f n + sumN g n
  | 0 => rfl
  | n + 1 => by simp only [sumN]; rw [sumN_add f g n]; omega
theorem sumN_zero : ∀ n : Nat, sumN (fun _ => 0) n = 0
  | 0 => rfl
  | n + 1 => by simp only [sumN]; rw [sumN_zero n]; rfl
theorem sumN_shift (g : Nat → Int) (a : Nat) : ∀ b : Nat, sumN g (a + b) = sumN g a + sumN (fun k => g (a + k)) b
  | 0 => by simp [sumN]
  | b + 1 => by
    rw [← Nat.add_assoc]
    simp only [sumN]
    rw [sumN_shift g a b]; omega
theorem sumN_mul (g : Nat → Int) (b : Nat) : ∀ a : Nat, sumN g (a * b) = sumN (fun i => sumN (fun k => g (i * b + k)) b) a
  | 0 => by simp [sumN]
  | a + 1 => by
    rw [Nat.add_mul, Nat.one_mul, sumN_shift, sumN_mul g b a]
    rfl
theorem sumN_swap (h : Nat → Nat → Int) (b : Nat) : ∀ a : Nat, sumN (fun i => sumN (fun k => h i k) b) a = sumN (fun k => sumN (fun i => h i k) a) b
  | 0 => by simp only [sumN]; exact (sumN_zero b).symm
  | a + 1 => by
    simp only [sumN]
    rw [sumN_swap h b a, sumN_add]
theorem sumN_pick (f : Nat → Int) (k : Nat) : ∀ n : Nat, sumN (fun j => if j = k then f j else 0) n = if k < n then f k else 0
  | 0 => by simp [sumN]
  | n + 1 => by
    simp only [sumN]
    rw [sumN_pick f k n]
    by_cases h : n = k
    · subst h; rw [if_neg (by omega), if_pos rfl, if_pos (by omega)]; omega
    · rw [if_neg h, Int.add_zero]
      by_cases h2 : k < n
      · rw [if_pos h2, if_pos (by omega)]
      · rw [if_neg h2, if_neg (by omega)]
theorem At_call {n : Nat} (hn : 0 < n) (r : Int) (c : Nat) (i : Sid) (l : List Nat) (a b q : Nat) (hq : a * c + b = q) (hl : q < l.length) (hll : l.length < 1000000) (x : Nat) (hx : l[q] = x) {Q : PV → Nat → List Nat → Prop}
    (hQ : Q (.int .u64 (x : Int)) n []) : PCall Tryz.prog 48 [Mx r (c : Int) i l, .int .i64 (a : Int), .int .i64 (b : Int)] n Q := by
  obtain ⟨p, hp⟩ : ∃ p, p = a * c := ⟨_, rfl⟩
  rw [← hp] at hq
  have hw1 : IntKind.i64.wrap ((a : Int) * (c : Int)) = (p : Int) := by
    rw [show (a : Int) * (c : Int) = (p : Int) by rw [hp]; simp]
    exact wrap_i64_is rfl (by omega)
  have hw2 : IntKind.i64.wrap ((p : Int) + (b : Int)) = (q : Int) := wrap_i64_is (by omega) (by omega)
  have hlq : (q : Int) < (l.length : Int) := by omega
  refine of48 hn ?_
  simpa (disch := omega) [-wrap_i64_at, c48, hw1, hw2, hl, hlq, hx] using hQ
theorem NV_up (v : Int) (i : Sid) : NV (-1074) v i = NV (-2148) (v * 2 ^ e74) i := by
  rw [NV_units (-1074) v e74]
  rfl
end Go.Proofs.YtphndngifjgeoaaGreatDoor
