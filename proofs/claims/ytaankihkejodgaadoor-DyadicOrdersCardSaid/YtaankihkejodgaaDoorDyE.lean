/- Numbers with one power: plain laws. -/
import Derived.Test.YtaankihkejodgaaDoorDyD
set_option linter.unusedVariables false
set_option linter.unusedSimpArgs false
namespace Go.Proofs.YtaankihkejodgaaDoor
open Go.Proofs

theorem blenF_bits : ∀ (f x : Nat), x < 2 ^ f → x ≠ 0 → x < 2 ^ blenF f x ∧ 2 ^ blenF f x ≤ 2 * x
  | 0, x, h, h0 => by have : x = 0 := by simpa using h
                      exact absurd this h0
  | f + 1, x, h, h0 => by
    rw [blenF, if_neg h0]
    by_cases h1 : x / 2 = 0
    · have hx : x = 1 := by omega
      subst hx
      have : blenF f 0 = 0 := by cases f <;> simp [blenF]
      simp [this]
    · have := blenF_bits f (x / 2) (by rw [Nat.pow_succ] at h; omega) h1
      rw [Nat.pow_succ]
      omega
theorem lenW_bits {l : List Nat} (ll : Lim l) (ht : topOk l) (hl : l ≠ []) : val l < 2 ^ lenW l ∧ 2 ^ lenW l ≤ 2 * val l := by
  have h0 : 0 < l.length := List.length_pos_iff.2 hl
  have hj : l.length - 1 < l.length := by omega
  have hx := ll.get hj
  have hne : l[l.length - 1] ≠ 0 := by
    simp only [topOk, List.getD, List.getElem?_eq_getElem hj, Option.getD_some] at ht; exact ht
  have hb := blenF_bits 32 _ hx hne
  have hlw : lenW l = 32 * (l.length - 1) + blen l[l.length - 1] := by simp [lenW, h0]
  have hs := val_split l (l.length - 1)
  rw [List.drop_eq_getElem_cons hj, val_cons, List.drop_eq_nil_of_le (by omega)] at hs
  simp only [val_nil, Nat.mul_zero, Nat.add_zero] at hs
  have hlo := val_lt (ll.take (l.length - 1))
  rw [List.length_take, Nat.min_eq_left (by omega)] at hlo
  have hp : 2 ^ lenW l = 4294967296 ^ (l.length - 1) * 2 ^ blen l[l.length - 1] := by rw [hlw, Nat.pow_add, Nat.pow_mul]
  rw [hp, hs]
  unfold blen
  generalize 2 ^ blenF 32 l[l.length - 1] = q at *
  generalize l[l.length - 1] = t at *
  generalize 4294967296 ^ (l.length - 1) = p at *
  generalize val (l.take (l.length - 1)) = v at *
  constructor
  · have : p * (t + 1) ≤ p * q := Nat.mul_le_mul_left p (by omega)
    rw [Nat.mul_add] at this; omega
  · have : p * q ≤ p * (2 * t) := Nat.mul_le_mul_left p (by omega)
    rw [Nat.mul_left_comm] at this; omega
theorem lenZ_bits {x : Int} (h : x ≠ 0) : x.natAbs < 2 ^ lenW (dig x.natAbs) ∧ 2 ^ lenW (dig x.natAbs) ≤ 2 * x.natAbs := by
  have := lenW_bits (Lim.dig x.natAbs) (topOk_dig _) (dig_ne h).2
  rwa [val_dig] at this
/-- Has a shifted number too many limbs? -/
theorem big_shift {x : Int} (h : x ≠ 0) (k m : Nat) : sz (shZ x k) m ↔ lenW (dig x.natAbs) + k ≤ 32 * m := by
  have h1 := lenZ_bits h
  have h2 := shZ_abs x k
  rw [if_pos (by omega), Int.toNat_natCast] at h2
  unfold sz
  rw [h2, show (4294967296 : Nat) ^ m = 2 ^ (32 * m) by rw [Nat.pow_mul]]
  have hk : 0 < 2 ^ k := Nat.pos_of_ne_zero (by simp)
  constructor
  · intro hz
    rcases Nat.lt_or_ge (32 * m) (lenW (dig x.natAbs) + k) with hc | hc
    · exfalso
      have h3 : 2 ^ (32 * m + 1) ≤ 2 ^ (lenW (dig x.natAbs) + k) := Nat.pow_le_pow_right (by omega) (by omega)
      rw [Nat.pow_succ, Nat.pow_add] at h3
      have h4 := Nat.mul_le_mul_right (2 ^ k) h1.2
      rw [Nat.mul_assoc] at h4
      omega
    · exact hc
  · intro hc
    have h3 : 2 ^ (lenW (dig x.natAbs) + k) ≤ 2 ^ (32 * m) := Nat.pow_le_pow_right (by omega) hc
    rw [Nat.pow_add] at h3
    have h4 := Nat.mul_lt_mul_of_pos_right h1.1 hk
    omega
theorem fit {a c u k M : Nat} (hM : 2 * u + 1 ≤ M) (ha : a < 2 ^ u) (hc : c < 2 ^ u) (h : a * 2 ^ k < 2 ^ M) : a * 2 ^ k + c < 2 ^ M := by
  have hk : 0 < 2 ^ k := Nat.pos_of_ne_zero (by simp)
  have hu : 0 < 2 ^ u := Nat.pos_of_ne_zero (by simp)
  by_cases hku : u ≤ k
  · by_cases hkM : k ≤ M
    · have e : 2 ^ M = 2 ^ (M - k) * 2 ^ k := by rw [← Nat.pow_add, show M - k + k = M by omega]
      have h1 : a < 2 ^ (M - k) := by rw [e] at h; exact Nat.lt_of_mul_lt_mul_right h
      have h2 := Nat.mul_le_mul_right (2 ^ k) (show a + 1 ≤ 2 ^ (M - k) by omega)
      rw [Nat.add_mul] at h2
      have h3 : 2 ^ u ≤ 2 ^ k := Nat.pow_le_pow_right (by omega) hku
      omega
    · have h1 : 2 ^ M ≤ 2 ^ k := Nat.pow_le_pow_right (by omega) (by omega)
      have h2 : a = 0 := by
        rcases Nat.eq_zero_or_pos a with h0 | h0
        · exact h0
        · have := Nat.mul_le_mul_right (2 ^ k) (show 1 ≤ a by omega)
          omega
      subst h2
      have h3 : 2 ^ u ≤ 2 ^ M := Nat.pow_le_pow_right (by omega) (by omega)
      omega
  · have h1 : 2 ^ k ≤ 2 ^ u := Nat.pow_le_pow_right (by omega) (by omega)
    have h2 : a * 2 ^ k ≤ a * 2 ^ u := Nat.mul_le_mul_left a h1
    have h3 := Nat.mul_le_mul_right (2 ^ u) (show a + 1 ≤ 2 ^ u by omega)
    have h4 : 2 ^ (2 * u + 1) ≤ 2 ^ M := Nat.pow_le_pow_right (by omega) hM
    have h5 : 2 ^ (2 * u + 1) = 2 * (2 ^ u * 2 ^ u) := by rw [Nat.pow_succ, Nat.two_mul, Nat.pow_add]; omega
    rw [Nat.add_mul] at h3
    have h6 : 2 ^ u * 1 ≤ 2 ^ u * 2 ^ u := Nat.mul_le_mul_left _ hu
    omega

/-- The lesser power of two numbers; of one that is 0 the other one's. -/
def lowE (x y e f : Int) : Int := if x = 0 then f else if y = 0 then e else min e f
/-- A number's whole part, with a lesser power. -/
def lev (x e E : Int) : Int := if x = 0 then 0 else shZ x (e - E)
def widE (x e E : Int) : Bool := decide (x ≠ 0) && (decide (16384 < e - E) || decide (16384 < (lenW (dig x.natAbs) : Int) + e - E))
def wideD (x y e f : Int) : Bool := widE x e (lowE x y e f) || widE y f (lowE x y e f)
/-- The sum, with the lesser power. -/
def sumZ (x y e f : Int) : Int := lev x e (lowE x y e f) + lev y f (lowE x y e f)

theorem sz_two {x : Int} {k : Nat} (h : sz x k) : x.natAbs < 2 ^ (32 * k) := by rw [Nat.pow_mul]; exact h
theorem sz_zero (k : Nat) : sz 0 k := by unfold sz; exact Nat.pos_of_ne_zero (by simp)
theorem lenW_small {x : Int} {k : Nat} (h : sz x k) : lenW (dig x.natAbs) ≤ 32 * k := by
  have h1 := h.len
  have ll := Lim.dig x.natAbs
  unfold lenW
  split
  · rename_i hh
    have := blen_le (ll.get (i := (dig x.natAbs).length - 1) (by omega))
    omega
  · omega
theorem lev_self {x e : Int} : lev x e e = x := by
  unfold lev; by_cases h : x = 0
  · simp [h]
  · rw [if_neg h, Int.sub_self, shZ_none]
theorem widE_self {x e : Int} (h : sz x 255) : widE x e e = false := by
  have := lenW_small h
  unfold widE
  simp; intro _; omega
/-- Not too wide, the number has no more limbs than may be. -/
theorem lev_sz {x e E : Int} (hE : E ≤ e) (h : widE x e E = false) : sz (lev x e E) 512 := by
  unfold lev
  by_cases h0 : x = 0
  · rw [if_pos h0]; exact sz_zero 512
  · rw [if_neg h0]
    obtain ⟨k, hk⟩ : ∃ k : Nat, e - E = k := ⟨(e - E).toNat, by omega⟩
    rw [hk, big_shift h0]
    unfold widE at h
    simp [h0] at h
    omega
theorem lev_abs {x e E : Int} (hE : E ≤ e) : ∃ k, (lev x e E).natAbs = x.natAbs * 2 ^ k := by
  unfold lev
  by_cases h0 : x = 0
  · exact ⟨0, by simp [h0]⟩
  · rw [if_neg h0, shZ_abs, if_pos (by omega)]; exact ⟨_, rfl⟩
theorem lowE_le {x y e f : Int} (h1 : x = 0 → e = 0) (h2 : y = 0 → f = 0) : (x ≠ 0 → lowE x y e f ≤ e) ∧ (y ≠ 0 → lowE x y e f ≤ f) ∧ (x ≠ 0 → y ≠ 0 → lowE x y e f = e ∨ lowE x y e f = f) := by
  unfold lowE
  refine ⟨fun h => ?_, fun h => ?_, fun hx hy => ?_⟩
  · rw [if_neg h]; split <;> omega
  · split
    · omega
    · first | omega | (rw [if_neg h]; omega)
  · rw [if_neg hx, if_neg hy]; omega
theorem sum_core {X x Y : Int} {j k m : Nat} (hk : 2 * (32 * k) + 1 ≤ 32 * m) (hX : X.natAbs = x.natAbs * 2 ^ j) (hx : sz x k) (hY : sz Y k) (hs : sz X m) : sz (X + Y) m := by
  have h1 := sz_two hx
  have h2 := sz_two hY
  have h3 := sz_two hs
  rw [hX] at h3
  have h4 := fit hk h1 h2 h3
  rw [← hX] at h4
  unfold sz
  rw [show (4294967296 : Nat) ^ m = 2 ^ (32 * m) by rw [Nat.pow_mul]]
  exact Nat.lt_of_le_of_lt (Int.natAbs_add_le _ _) h4
/-- The sum of two light ones that are not too wide has no more limbs than may be. -/
theorem sumZ_sz {x y e f : Int} (hx : sz x 255) (hy : sz y 255) (h1 : x = 0 → e = 0) (h2 : y = 0 → f = 0) (hw : wideD x y e f = false) : sz (sumZ x y e f) 512 := by
  unfold wideD at hw
  rw [Bool.or_eq_false_iff] at hw
  obtain ⟨q1, q2, q3⟩ := lowE_le h1 h2
  generalize hE : lowE x y e f = E at *
  unfold sumZ
  rw [hE]
  by_cases hx0 : x = 0
  · subst hx0
    have : lev 0 e E = 0 := by simp [lev]
    rw [this, Int.zero_add]
    by_cases hy0 : y = 0
    · subst hy0
      have : lev 0 f E = 0 := by simp [lev]
      rw [this]; exact sz_zero 512
    · exact lev_sz (q2 hy0) hw.2
  · by_cases hy0 : y = 0
    · subst hy0
      have : lev 0 f E = 0 := by simp [lev]
      rw [this, Int.add_zero]
      exact lev_sz (q1 hx0) hw.1
    · rcases q3 hx0 hy0 with hq | hq
      · -- the first one has the lesser power
        have e1 : lev x e E = x := by rw [hq]; exact lev_self
        obtain ⟨k, hk⟩ := lev_abs (x := y) (q2 hy0)
        rw [e1, Int.add_comm]
        exact sum_core (by decide) hk hy hx (lev_sz (q2 hy0) hw.2)
      · have e1 : lev y f E = y := by rw [hq]; exact lev_self
        obtain ⟨k, hk⟩ := lev_abs (x := x) (q1 hx0)
        rw [e1]
        exact sum_core (by decide) hk hx hy (lev_sz (q1 hx0) hw.1)
end Go.Proofs.YtaankihkejodgaaDoor
