/- The rounding of a greater number is no less, and the model's order of two floats that are no NaN is that of their signed bits: plain laws, no program in sight. -/
import Derived.Test.YtdaoblhmnafllaaDoorSfM
set_option linter.unusedVariables false
set_option linter.unusedSimpArgs false
namespace Go.Proofs.YtdaoblhmnafllaaDoor
open Go.Proofs

theorem rq_mono {X Y : Nat} (s : Nat) (h : X ≤ Y) : rq X s ≤ rq Y s := by
  have hP : 0 < 2 ^ s := Nat.two_pow_pos s
  unfold rq
  have h1 := Nat.div_add_mod X (2 ^ s)
  have h2 := Nat.div_add_mod Y (2 ^ s)
  have h5 : X / 2 ^ s ≤ Y / 2 ^ s := Nat.div_le_div_right h
  rcases Nat.lt_or_eq_of_le h5 with h6 | h6
  · split <;> split <;> omega
  · rw [h6] at h1 ⊢
    have h7 : X % 2 ^ s ≤ Y % 2 ^ s := by omega
    clear h1 h2
    split <;> split <;> omega
theorem rq_scale (M t a : Nat) : rq (M * 2 ^ a) (t + a) = rq M t := by
  have hA : 0 < 2 ^ a := Nat.two_pow_pos a
  have e1 : M * 2 ^ a / 2 ^ (t + a) = M / 2 ^ t := by rw [Nat.pow_add]; exact Nat.mul_div_mul_right _ _ hA
  have e2 : M * 2 ^ a % 2 ^ (t + a) = (M % 2 ^ t) * 2 ^ a := by rw [Nat.pow_add]; exact Nat.mul_mod_mul_right _ _ _
  have c1 : (2 ^ t * 2 ^ a < 2 * (M % 2 ^ t * 2 ^ a)) ↔ 2 ^ t < 2 * (M % 2 ^ t) := by
    rw [← Nat.mul_assoc]; exact Nat.mul_lt_mul_right hA
  have c2 : (2 ^ t * 2 ^ a = 2 * (M % 2 ^ t * 2 ^ a)) ↔ 2 ^ t = 2 * (M % 2 ^ t) := by
    rw [← Nat.mul_assoc]; exact Nat.mul_left_inj (by omega)
  unfold rq
  rw [e1, e2, Nat.pow_add]
  simp only [c1, c2]
theorem rq_whole (M u s : Nat) : rq (M * 2 ^ (u + s)) s = M * 2 ^ u := by
  have hP : 0 < 2 ^ s := Nat.two_pow_pos s
  rw [Nat.pow_add, ← Nat.mul_assoc]
  unfold rq
  rw [Nat.mul_mod_left, Nat.mul_div_cancel _ hP, if_neg (by omega)]
  rfl
theorem rnd_rq {M : Nat} {P E K : Int} (h1 : 0 ≤ E + K) (h2 : 0 ≤ P + K) : rnd M (P - E) = rq (M * 2 ^ (E + K).toNat) (P + K).toNat := by
  unfold rnd
  split
  · rw [show (E + K).toNat = (-(P - E)).toNat + (P + K).toNat by omega, rq_whole]
  · rw [show (P + K).toNat = (P - E).toNat + (E + K).toNat by omega, rq_scale]
theorem rnd_range' {M L : Nat} {E : Int} (hL : bitsL M L) : rnd M (pexp L E - E) ≤ 9007199254740992 ∧ (4503599627370496 ≤ rnd M (pexp L E - E) ∨ pexp L E = -1074) := by
  obtain ⟨h1, h2⟩ := hL
  have hp : pexp L E = -1074 ∨ pexp L E = L + E - 53 := by unfold pexp; split <;> simp
  have hq : (L : Int) + E - 53 ≤ pexp L E := by unfold pexp; split <;> omega
  unfold rnd
  split
  · rename_i ht
    obtain ⟨a, ha⟩ : ∃ a : Nat, a = (-(pexp L E - E)).toNat := ⟨_, rfl⟩
    rw [← ha]
    have hla : L + a ≤ 53 := by omega
    have e : 2 ^ 53 = 2 ^ L * 2 ^ a * 2 ^ (53 - (L + a)) := by rw [← Nat.pow_add, ← Nat.pow_add]; congr 1; omega
    have hc : 0 < 2 ^ (53 - (L + a)) := Nat.two_pow_pos _
    have hA : 0 < 2 ^ a := Nat.two_pow_pos _
    constructor
    · have k1 : M * 2 ^ a < 2 ^ L * 2 ^ a := (Nat.mul_lt_mul_right hA).2 h1
      have k2 : 2 ^ L * 2 ^ a ≤ 2 ^ L * 2 ^ a * 2 ^ (53 - (L + a)) := Nat.le_mul_of_pos_right _ hc
      rw [← e] at k2
      have k3 : (2 : Nat) ^ 53 = 9007199254740992 := by decide
      omega
    · rcases hp with hp | hp
      · exact .inr hp
      · left
        have h0 : 53 - (L + a) = 0 := by omega
        rw [h0, Nat.pow_zero, Nat.mul_one] at e
        have k1 : 2 ^ L * 2 ^ a ≤ 2 * M * 2 ^ a := Nat.mul_le_mul_right _ h2
        rw [← e, Nat.mul_assoc] at k1
        have k3 : (2 : Nat) ^ 53 = 9007199254740992 := by decide
        omega
  · rename_i ht
    obtain ⟨t, ha⟩ : ∃ t : Nat, t = (pexp L E - E).toNat := ⟨_, rfl⟩
    rw [← ha]
    have hla : L ≤ 53 + t := by omega
    have hT : 0 < 2 ^ t := Nat.two_pow_pos _
    have k3 : (2 : Nat) ^ 53 = 9007199254740992 := by decide
    have hdm := Nat.div_add_mod M (2 ^ t)
    have hq1 : M / 2 ^ t < 2 ^ 53 := by
      rw [Nat.div_lt_iff_lt_mul hT, ← Nat.pow_add]
      exact Nat.lt_of_lt_of_le h1 (Nat.pow_le_pow_right (by omega) hla)
    unfold rq
    constructor
    · split <;> omega
    · rcases hp with hp | hp
      · exact .inr hp
      · left
        have h0 : L = 53 + t := by omega
        have : 4503599627370496 ≤ M / 2 ^ t := by
          rw [Nat.le_div_iff_mul_le hT]
          have : 2 ^ L = 2 * (4503599627370496 * 2 ^ t) := by rw [h0, Nat.pow_add, k3]; omega
          omega
        split <;> omega

theorem pack_mono1 {p q r : Nat} (h : q ≤ r) : min 9218868437227405312 (p * 4503599627370496 + q) ≤ min 9218868437227405312 (p * 4503599627370496 + r) := by omega
theorem pack_mono2 {p s q r : Nat} (h : p + 1 ≤ s) (hq : q ≤ 9007199254740992) (hr : 4503599627370496 ≤ r) : min 9218868437227405312 (p * 4503599627370496 + q) ≤ min 9218868437227405312 (s * 4503599627370496 + r) := by omega
theorem spB_mono {M N L R : Nat} {E F K : Int} (hL : bitsL M L) (hR : bitsL N R) (h1 : 0 ≤ E + K) (h2 : 0 ≤ F + K) (hK : 1074 ≤ K) (h : M * 2 ^ (E + K).toNat ≤ N * 2 ^ (F + K).toNat) : spB M E L ≤ spB N F R := by
  have hLR : (L : Int) + E ≤ R + F := by
    by_cases hc : (L : Int) + E ≤ R + F
    · exact hc
    · exfalso
      have hA : 0 < 2 ^ (E + K).toNat := Nat.two_pow_pos _
      have hB : 0 < 2 ^ (F + K).toNat := Nat.two_pow_pos _
      have k1 : 2 ^ L * 2 ^ (E + K).toNat ≤ 2 * M * 2 ^ (E + K).toNat := Nat.mul_le_mul_right _ hL.2
      have k2 : N * 2 ^ (F + K).toNat < 2 ^ R * 2 ^ (F + K).toNat := (Nat.mul_lt_mul_right hB).2 hR.1
      rw [Nat.mul_assoc] at k1
      rw [← Nat.pow_add] at k1 k2
      have k3 : 2 ^ (1 + (R + (F + K).toNat)) ≤ 2 ^ (L + (E + K).toNat) := Nat.pow_le_pow_right (by omega) (by omega)
      rw [Nat.pow_add 2 1] at k3
      omega
  have hp : pexp L E ≤ pexp R F := by unfold pexp; split <;> split <;> omega
  have hp1 : -1074 ≤ pexp L E := by unfold pexp; split <;> omega
  have a1 := rnd_range' (E := E) hL
  have a2 := rnd_range' (E := F) hR
  unfold spB packR
  by_cases he : pexp L E = pexp R F
  · have e1 : rnd M (pexp L E - E) ≤ rnd N (pexp R F - F) := by
      rw [rnd_rq h1 (by omega), rnd_rq h2 (by omega), he]
      exact rq_mono _ h
    rw [he]; rw [he] at e1
    exact pack_mono1 e1
  · have e2 : (pexp L E + 1074).toNat + 1 ≤ (pexp R F + 1074).toNat := by clear h a1 a2; omega
    exact pack_mono2 e2 a1.1 (a2.2.resolve_right (by clear h a1 a2; omega))

theorem vm_lt1 {m : Nat} (h : m + 1 < 9218868437227405312) : mant m * 2 ^ (expo m + 4000).toNat < mant (m + 1) * 2 ^ (expo (m + 1) + 4000).toNat := by
  have hm : bP m = m / 4503599627370496 ∧ bP (m + 1) = (m + 1) / 4503599627370496 := by unfold bP; omega
  obtain ⟨a, ha⟩ : ∃ a : Nat, a = m / 4503599627370496 := ⟨_, rfl⟩
  have hf : bF m = m - 4503599627370496 * a := by unfold bF; omega
  by_cases hc : (m + 1) / 4503599627370496 = a
  · have hf2 : bF (m + 1) = bF m + 1 := by unfold bF; omega
    unfold mant expo
    rw [hm.1, hm.2, hc, ← ha, hf2]
    have hp : 0 < 2 ^ ((if a = 0 then -1074 else (a : Int) - 1075) + 4000).toNat := Nat.two_pow_pos _
    refine (Nat.mul_lt_mul_right hp).2 ?_
    split <;> omega
  · have hc2 : (m + 1) / 4503599627370496 = a + 1 := by omega
    have hf2 : bF (m + 1) = 0 := by unfold bF; omega
    have hf3 : bF m = 4503599627370495 := by unfold bF; omega
    unfold mant expo
    rw [hm.1, hm.2, hc2, ← ha, hf2, hf3]
    simp only [Nat.add_eq_zero_iff, Nat.succ_ne_self, and_false, if_false, Nat.one_ne_zero]
    by_cases h0 : a = 0
    · subst h0
      simp only [if_true]
      have e : ((((0 : Nat) + 1 : Nat) : Int) - 1075 + 4000).toNat = (-1074 + 4000 : Int).toNat := by omega
      rw [e]
      exact (Nat.mul_lt_mul_right (Nat.two_pow_pos _)).2 (by omega)
    · simp only [h0, if_false]
      have e : (((a + 1 : Nat) : Int) - 1075 + 4000).toNat = ((a : Int) - 1075 + 4000).toNat + 1 := by omega
      rw [e, Nat.pow_succ]
      have hp : 0 < 2 ^ ((a : Int) - 1075 + 4000).toNat := Nat.two_pow_pos _
      generalize 2 ^ ((a : Int) - 1075 + 4000).toNat = p at hp ⊢
      omega
theorem vm_lt {m : Nat} : ∀ k : Nat, m < k → k < 9218868437227405312 → mant m * 2 ^ (expo m + 4000).toNat < mant k * 2 ^ (expo k + 4000).toNat
  | 0, h, _ => by omega
  | k + 1, h, hk => by
    have h1 := vm_lt1 hk
    by_cases hm : m = k
    · subst hm; exact h1
    · exact Nat.lt_trans (vm_lt k (by omega) (by omega)) h1
theorem vm_cmp {m k : Nat} (hm : m < 9218868437227405312) (hk : k < 9218868437227405312) : (mant m * 2 ^ (expo m + 4000).toNat < mant k * 2 ^ (expo k + 4000).toNat ↔ m < k) ∧ (mant m * 2 ^ (expo m + 4000).toNat = mant k * 2 ^ (expo k + 4000).toNat ↔ m = k) := by
  rcases Nat.lt_trichotomy m k with h | h | h
  · have := vm_lt k h hk; omega
  · subst h; omega
  · have := vm_lt m h hm; omega

/-- A number with a sign. -/
def sgz (neg : Bool) (a : Nat) : Int := if neg then -(a : Int) else a
def ordI (a b : Int) : Ordering := if a < b then .lt else if a = b then .eq else .gt
theorem compare_int (a b : Int) : compare a b = ordI a b := rfl
theorem read_sB (neg : Bool) {m : Nat} (h : m < 9223372036854775808) : Ieee.double.read (sB neg m) = if m < 9218868437227405312 then .number neg (mant m) (expo m) else if m = 9218868437227405312 then .infinity neg else .nan neg (m - 9218868437227405312) := by
  have e1 : Ieee.double.signWeight = 9223372036854775808 := by decide
  have e2 : Ieee.double.binade = 4503599627370496 := by decide
  have e3 : Ieee.double.infRung = 9218868437227405312 := by decide
  have e4 : Ieee.double.leastPlace = -1074 := by decide
  have h1 : sB neg m / 9223372036854775808 % 2 = if neg then 1 else 0 := by
    unfold sB mB bN; cases neg
    · simp; omega
    · simp; split <;> omega
  have h2 : sB neg m % 9223372036854775808 = m := by
    unfold sB mB bN; cases neg
    · simp; omega
    · simp; split <;> omega
  have h3 : (sB neg m / 9223372036854775808 % 2 == 1) = neg := by rw [h1]; cases neg <;> simp
  unfold Ieee.Format.read
  simp only [e1, e2, e3, e4, h2, h3]
  unfold mant expo bP bF
  by_cases c1 : m < 4503599627370496
  · have : m / 4503599627370496 % 2048 = 0 := by omega
    rw [if_pos c1, if_pos (by omega), this, if_pos rfl, if_pos rfl]
    congr 1; omega
  · rw [if_neg c1]
    split
    · have : ¬ m / 4503599627370496 % 2048 = 0 := by omega
      rw [if_neg this, if_neg this]
      congr 1 <;> omega
    · rfl
theorem signed_sgz (neg : Bool) (a k : Nat) : Ieee.signed neg a k = sgz neg (a * 2 ^ k) := by
  unfold Ieee.signed sgz; rw [Nat.shiftLeft_eq]
theorem ordI_sgz (s t : Bool) {a b c d : Nat} (h : (a < b ↔ c < d) ∧ (a = b ↔ c = d)) (h0 : a = 0 ↔ c = 0) (h1 : b = 0 ↔ d = 0) : ordI (sgz s a) (sgz t b) = ordI (sgz s c) (sgz t d) := by
  unfold ordI sgz
  cases s <;> cases t <;> simp only [if_true, if_false, Bool.false_eq_true] <;>
  · by_cases k1 : a < b <;> by_cases k2 : a = b <;> simp only [k1, k2, true_iff, false_iff, h] at h h0 h1 <;> (repeat' split) <;> first | rfl | (exfalso; omega)
theorem mant_zero {m : Nat} (h : m < 9218868437227405312) : mant m = 0 ↔ m = 0 := by
  unfold mant bP bF; split <;> omega
theorem order_sB (s t : Bool) {m k : Nat} (hm : m ≤ 9218868437227405312) (hk : k ≤ 9218868437227405312) : FloatKind.f64.format.order (sB s m) (sB t k) = some (ordI (sgz s m) (sgz t k)) := by
  show Ieee.double.order _ _ = _
  unfold Ieee.Format.order
  rw [read_sB s (by omega), read_sB t (by omega)]
  by_cases c1 : m < 9218868437227405312
  · by_cases c2 : k < 9218868437227405312
    · rw [if_pos c1, if_pos c2]
      simp only [Ieee.Datum.order]
      rw [signed_sgz, signed_sgz, compare_int]
      congr 1
      have r1 := expo_le m
      have r2 := expo_le k
      have hv := vm_cmp c1 c2
      obtain ⟨B, hB⟩ : ∃ B : Int, B = min (expo m) (expo k) := ⟨_, rfl⟩
      rw [← hB]
      have e1 : (expo m + 4000).toNat = (expo m - B).toNat + (B + 4000).toNat := by omega
      have e2 : (expo k + 4000).toNat = (expo k - B).toNat + (B + 4000).toNat := by omega
      rw [e1, e2, Nat.pow_add, Nat.pow_add, ← Nat.mul_assoc, ← Nat.mul_assoc] at hv
      have hp : 0 < 2 ^ (B + 4000).toNat := Nat.two_pow_pos _
      have hz1 : mant m * 2 ^ (expo m - B).toNat = 0 ↔ m = 0 := by
        rw [Nat.mul_eq_zero, mant_zero c1]; simp
      have hz2 : mant k * 2 ^ (expo k - B).toNat = 0 ↔ k = 0 := by
        rw [Nat.mul_eq_zero, mant_zero c2]; simp
      refine ordI_sgz s t ⟨?_, ?_⟩ hz1 hz2
      · rw [← hv.1]; exact (Nat.mul_lt_mul_right hp).symm
      · rw [← hv.2]; exact (Nat.mul_left_inj (by omega)).symm
    · rw [if_pos c1, if_neg c2, if_pos (by omega)]
      simp only [Ieee.Datum.order]
      unfold ordI sgz
      cases s <;> cases t <;> simp only [if_true, if_false, Bool.false_eq_true] <;> (repeat' split) <;> first | rfl | (exfalso; omega)
  · rw [if_neg c1, if_pos (by omega)]
    by_cases c2 : k < 9218868437227405312
    · rw [if_pos c2]
      simp only [Ieee.Datum.order]
      unfold ordI sgz
      cases s <;> cases t <;> simp only [if_true, if_false, Bool.false_eq_true] <;> (repeat' split) <;> first | rfl | (exfalso; omega)
    · rw [if_neg c2, if_pos (by omega)]
      simp only [Ieee.Datum.order]
      obtain rfl : m = 9218868437227405312 := by omega
      obtain rfl : k = 9218868437227405312 := by omega
      cases s <;> cases t <;> rfl
theorem order_nan (s t : Bool) {m k : Nat} (hm : m < 9223372036854775808) (hk : k < 9223372036854775808) (h : 9218868437227405312 < m ∨ 9218868437227405312 < k) : FloatKind.f64.format.order (sB s m) (sB t k) = none := by
  show Ieee.double.order _ _ = _
  unfold Ieee.Format.order
  rw [read_sB s hm, read_sB t hk]
  by_cases c1 : 9218868437227405312 < m
  · rw [if_neg (by omega), if_neg (by omega)]; simp [Ieee.Datum.order]
  · have c2 : 9218868437227405312 < k := by omega
    conv => lhs; arg 2; rw [if_neg (by omega), if_neg (by omega)]
    split
    · simp [Ieee.Datum.order]
    · split <;> simp [Ieee.Datum.order]
theorem sB_self (b : Nat) (hb : b < 18446744073709551616) : b = sB (bN b) (b % 9223372036854775808) := by
  unfold sB mB bN
  by_cases h : 9223372036854775808 ≤ b <;> simp [h] <;> (try split) <;> omega
end Go.Proofs.YtdaoblhmnafllaaDoor
