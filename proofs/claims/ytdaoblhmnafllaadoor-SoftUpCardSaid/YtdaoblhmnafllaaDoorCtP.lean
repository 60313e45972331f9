/- What answers there are, and what is told of them. -/
import Derived.Test.YtdaoblhmnafllaaDoorCtG
import Derived.Test.YtdaoblhmnafllaaDoorBvP
set_option linter.unusedVariables false
set_option linter.unusedSimpArgs false
namespace Go.Proofs.YtdaoblhmnafllaaDoor
open Go.Proofs

@[simp] theorem poison_sl1 (i : Sid) (f z : Nat) (l : List Nat) (h : ¬ i.f = f) : (PV.sl i z (u32s l)).poison [f] = .sl i z (u32s l) := by simp [PV.poison, h]
@[simp] theorem poison_W1 (neg : Bool) (i : Sid) (f : Nat) (l : List Nat) (h : ¬ i.f = f) : (W neg i l).poison [f] = W neg i l := by simp [W, h]
/-- What an answer is: the number z's parts if b, else none. -/
def ansIs (b : Bool) (z : Int) (an : Bool) (al : List Nat) (e : Int) : Prop :=
  an = (b && ansN z) ∧ al = (if b then ansL z else []) ∧ e = (if b then ansE z else 1)
theorem ansIs_told {b : Bool} {z : Int} {an : Bool} {al : List Nat} {e : Int} (h : ansIs b z an al e) : toldB an al e (decide (z < 0)) (dig z.natAbs) (if b then 0 else 1) = true := by
  obtain ⟨rfl, rfl, rfl⟩ := h
  cases b with
  | false => simp [toldB]
  | true =>
    by_cases hb : 512 < (dig z.natAbs).length
    · simp [toldB, ansN, ansL, ansE, big, hb]
    · simp [toldB, ansN, ansL, ansE, big, hb]
theorem ansIs_len {b : Bool} {z : Int} {an : Bool} {al : List Nat} {e : Int} (h : ansIs b z an al e) : al.length ≤ 512 := by
  obtain ⟨rfl, rfl, rfl⟩ := h
  cases b with
  | false => simp
  | true => simp only [if_true, ansL, big]; by_cases hb : 512 < (dig z.natAbs).length <;> simp [hb]; omega
theorem ansIs_lim {b : Bool} {z : Int} {an : Bool} {al : List Nat} {e : Int} (h : ansIs b z an al e) : Lim al := by
  obtain ⟨rfl, rfl, rfl⟩ := h
  cases b with
  | false => simp; exact .nil
  | true => simp only [if_true, ansL, big]; by_cases hb : 512 < (dig z.natAbs).length <;> simp [hb]; exact .nil; exact Lim.dig _

theorem dig_len {v k : Nat} (h : v < 4294967296 ^ k) : (dig v).length ≤ k := by
  induction k generalizing v with
  | zero => have : v = 0 := by simpa using h
            subst this; simp [dig_zero]
  | succ k ih =>
    by_cases h0 : v = 0
    · subst h0; simp [dig_zero]
    · rw [dig_pos h0]
      have := ih (v := v / 4294967296) (Nat.div_lt_of_lt_mul (by rw [Nat.pow_succ, Nat.mul_comm] at h; exact h))
      simp; omega
theorem sum_len {na nb : Bool} {a b : List Nat} (la : Lim a) (lb : Lim b) {z : Int} (h : z.natAbs ≤ val a + val b) {k : Nat} (hka : a.length ≤ k) (hkb : b.length ≤ k) : (dig z.natAbs).length ≤ k + 1 := by
  apply dig_len
  have h1 := val_lt la
  have h2 := val_lt lb
  have h3 : 4294967296 ^ a.length ≤ 4294967296 ^ k := Nat.pow_le_pow_right (by omega) hka
  have h4 : 4294967296 ^ b.length ≤ 4294967296 ^ k := Nat.pow_le_pow_right (by omega) hkb
  rw [Nat.pow_succ]
  omega
end Go.Proofs.YtdaoblhmnafllaaDoor
