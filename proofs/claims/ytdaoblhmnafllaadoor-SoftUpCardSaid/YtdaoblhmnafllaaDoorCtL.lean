/- What the functions of layer 1 do, by value: the numbers' own law: a right number is what it is worth. -/
import Derived.Test.YtdaoblhmnafllaaDoorCtI
set_option linter.unusedVariables false
set_option linter.unusedSimpArgs false
namespace Go.Proofs.YtdaoblhmnafllaaDoor
open Go.Proofs

/-- Does a number have no more than k limbs? -/
def sz (z : Int) (k : Nat) : Prop := z.natAbs < 4294967296 ^ k
theorem sz.mono {z : Int} {k m : Nat} (h : sz z k) (hk : k ≤ m) : sz z m := Nat.lt_of_lt_of_le h (Nat.pow_le_pow_right (by omega) hk)
theorem sz.add {x y : Int} {k : Nat} (hx : sz x k) (hy : sz y k) : sz (x + y) (k + 1) := by
  unfold sz at *; rw [Nat.pow_succ]; omega
theorem sz.sub {x y : Int} {k : Nat} (hx : sz x k) (hy : sz y k) : sz (x - y) (k + 1) := by
  unfold sz at *; rw [Nat.pow_succ]; omega
theorem sz.mul {x y : Int} {k m : Nat} (hx : sz x k) (hy : sz y m) : sz (x * y) (k + m) := by
  unfold sz at *; rw [Nat.pow_add, Int.natAbs_mul]; exact Nat.mul_lt_mul'' hx hy
theorem sz.le {x y : Int} {k : Nat} (hx : sz x k) (h : y.natAbs ≤ x.natAbs) : sz y k := Nat.lt_of_le_of_lt h hx
theorem sz.len {x : Int} {k : Nat} (hx : sz x k) : (dig x.natAbs).length ≤ k := dig_len hx
theorem sz_dig (x : Int) : sz x (dig x.natAbs).length := by
  have := val_lt (Lim.dig x.natAbs)
  rwa [val_dig] at this
theorem newSid_lt {n n' : Nat} {i : Sid} (h : newSid n n' i) (hn : 0 < n') : i.f < n' := by
  rcases h with e | e
  · subst e; simpa using hn
  · omega
theorem right_Z {na : Bool} {a : List Nat} (h : rightW na a = true) (la : Lim a) : ∃ x : Int, na = decide (x < 0) ∧ a = dig x.natAbs := by
  have h3 := rightW_top h
  refine ⟨numW na a, ?_, by rw [numW_abs, right_dig la h3.1]⟩
  cases na with
  | false => simp [numW]
  | true =>
    have hne : a ≠ [] := fun e => by have := h3.2.2 e; simp at this
    have hp : 0 < val a := by
      rcases Nat.eq_zero_or_pos (val a) with e | e
      · have := right_dig la h3.1
        rw [e, dig_zero] at this
        exact absurd this.symm hne
      · exact e
    simp [numW]; omega
theorem rightW_Z {x : Int} (h : (dig x.natAbs).length ≤ 512) : rightW (decide (x < 0)) (dig x.natAbs) = true := by
  have := topOk_dig x.natAbs
  by_cases hx : x = 0
  · subst hx; simp [rightW, dig_zero, topOk]
  · have hne : ¬ (dig x.natAbs) = [] := fun e => by have := dig_eq_nil.1 e; omega
    simp [rightW, this, h, hne]
theorem ansIs_Z {z : Int} {an : Bool} {al : List Nat} {e : Int} (h : ansIs true z an al e) (hz : (dig z.natAbs).length ≤ 512) : an = decide (z < 0) ∧ al = dig z.natAbs ∧ e = 0 := by
  obtain ⟨rfl, rfl, rfl⟩ := h
  simp [ansN, ansL, ansE, big, hz]; omega

end Go.Proofs.YtdaoblhmnafllaaDoor
