/- Floats by value: the model's order of two, one times a number, and numbers times powers of two: plain laws, no program in sight. -/
import Derived.Test.YtphndngifjgeoaaDoorCyH
set_option linter.unusedVariables false
set_option linter.unusedSimpArgs false
namespace Go.Proofs.YtphndngifjgeoaaDoor
open Go.Proofs

def sB (neg : Bool) (b : Nat) : Nat := if neg then mB b else b
theorem vm_lt1 {m : Nat} (h : m + 1 < 9218868437227405312) : mant m * 2 ^ (expo m + 4000).toNat < mant (m + 1) * 2 ^ (expo (m + 1) + 4000).toNat := by
  have hm : bP m = m / 4503599627370496 ∧ bP (m + 1) = (m + 1) / 4503599627370496 := by unfold bP; omega
  obtain ⟨a, ha⟩ : ∃ a : Nat, a = m / 4503599627370496 := ⟨_, rfl⟩
  have hf : bF m = m - 4503599627370496 * a := by unfold bF; omega
  by_cases hc : (m + 1) / 4503599627370496 = a
  · have hf2 : bF (m + 1) = bF m + 1 := by unfold bF; omega
    unfold mant expo
    rw [hm.1, hm.2, hc, ← ha, hf2]
    have hp : 0 < 2 ^ ((if a = 0 then -1074 else (a : Int) - 1075) + 4000).toNat := Nat.two_pow_pos _
    refine (Nat.mul_lt_mul_right hp).2 ?_
    split <;> omega
  · have hc2 : (m + 1) / 4503599627370496 = a + 1 := by omega
    have hf2 : bF (m + 1) = 0 := by unfold bF; omega
    have hf3 : bF m = 4503599627370495 := by unfold bF; omega
    unfold mant expo
    rw [hm.1, hm.2, hc2, ← ha, hf2, hf3]
    simp only [Nat.add_eq_zero_iff, Nat.succ_ne_self, and_false, if_false, Nat.one_ne_zero]
    by_cases h0 : a = 0
    · subst h0
      simp only [if_true]
      have e : ((((0 : Nat) + 1 : Nat) : Int) - 1075 + 4000).toNat = (-1074 + 4000 : Int).toNat := by omega
      rw [e]
      exact (Nat.mul_lt_mul_right (Nat.two_pow_pos _)).2 (by omega)
    · simp only [h0, if_false]
      have e : (((a + 1 : Nat) : Int) - 1075 + 4000).toNat = ((a : Int) - 1075 + 4000).toNat + 1 := by omega
      rw [e, Nat.pow_succ]
      have hp : 0 < 2 ^ ((a : Int) - 1075 + 4000).toNat := Nat.two_pow_pos _
      generalize 2 ^ ((a : Int) - 1075 + 4000).toNat = p at hp ⊢
      omega
theorem vm_lt {m : Nat} : ∀ k : Nat, m < k → k < 9218868437227405312 → mant m * 2 ^ (expo m + 4000).toNat < mant k * 2 ^ (expo k + 4000).toNat
  | 0, h, _ => by omega
  | k + 1, h, hk => by
    have h1 := vm_lt1 hk
    by_cases hm : m = k
    · subst hm; exact h1
    · exact Nat.lt_trans (vm_lt k (by omega) (by omega)) h1
theorem vm_cmp {m k : Nat} (hm : m < 9218868437227405312) (hk : k < 9218868437227405312) : (mant m * 2 ^ (expo m + 4000).toNat < mant k * 2 ^ (expo k + 4000).toNat ↔ m < k) ∧ (mant m * 2 ^ (expo m + 4000).toNat = mant k * 2 ^ (expo k + 4000).toNat ↔ m = k) := by
  rcases Nat.lt_trichotomy m k with h | h | h
  · have := vm_lt k h hk; omega
  · subst h; omega
  · have := vm_lt m h hm; omega

/-- A number with a sign. -/
def sgz (neg : Bool) (a : Nat) : Int := if neg then -(a : Int) else a
def ordI (a b : Int) : Ordering := if a < b then .lt else if a = b then .eq else .gt
theorem compare_int (a b : Int) : compare a b = ordI a b := rfl
theorem read_sB (neg : Bool) {m : Nat} (h : m < 9223372036854775808) : Ieee.double.read (sB neg m) = if m < 9218868437227405312 then .number neg (mant m) (expo m) else if m = 9218868437227405312 then .infinity neg else .nan neg (m - 9218868437227405312) := by
  have e1 : Ieee.double.signWeight = 9223372036854775808 := by decide
  have e2 : Ieee.double.binade = 4503599627370496 := by decide
  have e3 : Ieee.double.infRung = 9218868437227405312 := by decide
  have e4 : Ieee.double.leastPlace = -1074 := by decide
  have h1 : sB neg m / 9223372036854775808 % 2 = if neg then 1 else 0 := by
    unfold sB mB bN; cases neg
    · simp; omega
    · simp; split <;> omega
  have h2 : sB neg m % 9223372036854775808 = m := by
    unfold sB mB bN; cases neg
    · simp; omega
    · simp; split <;> omega
  have h3 : (sB neg m / 9223372036854775808 % 2 == 1) = neg := by rw [h1]; cases neg <;> simp
  unfold Ieee.Format.read
  simp only [e1, e2, e3, e4, h2, h3]
  unfold mant expo bP bF
  by_cases c1 : m < 4503599627370496
  · have : m / 4503599627370496 % 2048 = 0 := by omega
    rw [if_pos c1, if_pos (by omega), this, if_pos rfl, if_pos rfl]
    congr 1; omega
  · rw [if_neg c1]
    split
    · have : ¬ m / 4503599627370496 % 2048 = 0 := by omega
      rw [if_neg this, if_neg this]
      congr 1 <;> omega
    · rfl
theorem signed_sgz (neg : Bool) (a k : Nat) : Ieee.signed neg a k = sgz neg (a * 2 ^ k) := by
  unfold Ieee.signed sgz; rw [Nat.shiftLeft_eq]
theorem ordI_sgz (s t : Bool) {a b c d : Nat} (h : (a < b ↔ c < d) ∧ (a = b ↔ c = d)) (h0 : a = 0 ↔ c = 0) (h1 : b = 0 ↔ d = 0) : ordI (sgz s a) (sgz t b) = ordI (sgz s c) (sgz t d) := by
  unfold ordI sgz
  cases s <;> cases t <;> simp only [if_true, if_false, Bool.false_eq_true] <;>
  · by_cases k1 : a < b <;> by_cases k2 : a = b <;> simp only [k1, k2, true_iff, false_iff, h] at h h0 h1 <;> (repeat' split) <;> first | rfl | (exfalso; omega)
theorem mant_zero {m : Nat} (h : m < 9218868437227405312) : mant m = 0 ↔ m = 0 := by
  unfold mant bP bF; split <;> omega
theorem order_sB (s t : Bool) {m k : Nat} (hm : m ≤ 9218868437227405312) (hk : k ≤ 9218868437227405312) : FloatKind.f64.format.order (sB s m) (sB t k) = some (ordI (sgz s m) (sgz t k)) := by
  show Ieee.double.order _ _ = _
  unfold Ieee.Format.order
  rw [read_sB s (by omega), read_sB t (by omega)]
  by_cases c1 : m < 9218868437227405312
  · by_cases c2 : k < 9218868437227405312
    · rw [if_pos c1, if_pos c2]
      simp only [Ieee.Datum.order]
      rw [signed_sgz, signed_sgz, compare_int]
      congr 1
      have r1 := expo_le m
      have r2 := expo_le k
      have hv := vm_cmp c1 c2
      obtain ⟨B, hB⟩ : ∃ B : Int, B = min (expo m) (expo k) := ⟨_, rfl⟩
      rw [← hB]
      have e1 : (expo m + 4000).toNat = (expo m - B).toNat + (B + 4000).toNat := by omega
      have e2 : (expo k + 4000).toNat = (expo k - B).toNat + (B + 4000).toNat := by omega
      rw [e1, e2, Nat.pow_add, Nat.pow_add, ← Nat.mul_assoc, ← Nat.mul_assoc] at hv
      have hp : 0 < 2 ^ (B + 4000).toNat := Nat.two_pow_pos _
      have hz1 : mant m * 2 ^ (expo m - B).toNat = 0 ↔ m = 0 := by
        rw [Nat.mul_eq_zero, mant_zero c1]; simp
      have hz2 : mant k * 2 ^ (expo k - B).toNat = 0 ↔ k = 0 := by
        rw [Nat.mul_eq_zero, mant_zero c2]; simp
      refine ordI_sgz s t ⟨?_, ?_⟩ hz1 hz2
      · rw [← hv.1]; exact (Nat.mul_lt_mul_right hp).symm
      · rw [← hv.2]; exact (Nat.mul_left_inj (by omega)).symm
    · rw [if_pos c1, if_neg c2, if_pos (by omega)]
      simp only [Ieee.Datum.order]
      unfold ordI sgz
      cases s <;> cases t <;> simp only [if_true, if_false, Bool.false_eq_true] <;> (repeat' split) <;> first | rfl | (exfalso; omega)
  · rw [if_neg c1, if_pos (by omega)]
    by_cases c2 : k < 9218868437227405312
    · rw [if_pos c2]
      simp only [Ieee.Datum.order]
      unfold ordI sgz
      cases s <;> cases t <;> simp only [if_true, if_false, Bool.false_eq_true] <;> (repeat' split) <;> first | rfl | (exfalso; omega)
    · rw [if_neg c2, if_pos (by omega)]
      simp only [Ieee.Datum.order]
      obtain rfl : m = 9218868437227405312 := by omega
      obtain rfl : k = 9218868437227405312 := by omega
      cases s <;> cases t <;> rfl
theorem sB_self (b : Nat) (hb : b < 18446744073709551616) : b = sB (bN b) (b % 9223372036854775808) := by
  unfold sB mB bN
  by_cases h : 9223372036854775808 ≤ b <;> simp [h] <;> (try split) <;> omega
theorem lg_two {a k : Nat} (h1 : 2 ^ k ≤ a) (h2 : a < 2 ^ (k + 1)) : a.log2 = k := by
  have h0 : a ≠ 0 := by have := Nat.two_pow_pos k; omega
  exact (Nat.log2_eq_iff h0).2 ⟨h1, h2⟩
theorem nearest_at (s : Bool) {M N : Nat} {e : Int} (hN : N ≠ 0) (hlg : N.log2 = 104) (hq : N / 4503599627370496 = M) (hr : N % 4503599627370496 = 0) (he : -1074 ≤ e) : Ieee.double.nearest s N (-52 + e) = Ieee.double.word s (min ((e - -1074).toNat * 4503599627370496 + M) 9218868437227405312) := by
  unfold Ieee.Format.nearest
  rw [if_neg hN]
  simp only [hlg]
  rw [show (Ieee.double.leastPlace : Int) = -1074 by decide, show Ieee.double.fractionBits = 52 by rfl, show Ieee.double.binade = 4503599627370496 by decide, show Ieee.double.infRung = 9218868437227405312 by decide]
  have hl : max (-52 + e + ((104 : Nat) : Int) - ((52 : Nat) : Int)) (-1074) = e := by omega
  rw [hl, show (-52 + e - e).toNat = 0 by omega, show (e - (-52 + e)).toNat = 52 by omega, Nat.shiftLeft_zero]
  have hc : Ieee.Toward.even.cut s N 52 = M := by
    unfold Ieee.Toward.cut
    simp only [hlg, show (1 <<< min 52 (104 + 2) : Nat) = 4503599627370496 by decide, hq, hr]
    simp
  rw [hc]
theorem rung_back {m p f : Nat} (h1 : 1 ≤ p) (h2 : m = 4503599627370496 * p + f) (h3 : m < 9218868437227405312) : min ((p - 1) * 4503599627370496 + (f + 4503599627370496)) 9218868437227405312 = m := by
  rw [Nat.min_eq_left (by omega)]; omega
theorem word_sB (s : Bool) {m : Nat} (h : m < 9223372036854775808) : Ieee.double.word s m = sB s m := by
  unfold Ieee.Format.word sB mB bN
  rw [show Ieee.double.signWeight = 9223372036854775808 by decide]
  cases s
  · rfl
  · simp only [if_true]
    rw [if_neg (by simpa using h)]; omega
theorem mant_mul {M : Nat} (h1 : 4503599627370496 ≤ M) (h2 : M < 9007199254740992) : (4503599627370496 * M) ≠ 0 ∧ (4503599627370496 * M).log2 = 104 ∧ (4503599627370496 * M) / 4503599627370496 = M ∧ (4503599627370496 * M) % 4503599627370496 = 0 :=
  ⟨by omega, lg_two (k := 104) (by omega) (by omega), by omega, by omega⟩
/-- One times a number that is not too small is that number. -/
theorem mul_one (s : Bool) {m : Nat} (h1 : 4503599627370496 ≤ m) (h2 : m < 9218868437227405312) : FloatKind.f64.format.mul 4607182418800017408 (sB s m) = some (sB s m) := by
  have hp : bP m = m / 4503599627370496 := by unfold bP; omega
  have hF : m = 4503599627370496 * bP m + bF m := by rw [hp]; unfold bF; omega
  have hp1 : 1 ≤ bP m ∧ bP m ≤ 2046 := by rw [hp]; omega
  have hm : mant m = bF m + 4503599627370496 := by unfold mant; rw [if_neg (by omega)]
  have he : expo m = (bP m : Int) - 1075 := by unfold expo; rw [if_neg (by omega)]
  have hml : mant m < 9007199254740992 := mant_lt m
  have ht : (expo m - -1074).toNat = bP m - 1 := by rw [he]; clear hF; omega
  have hr := rung_back hp1.1 hF h2
  obtain ⟨k1, k2, k3, k4⟩ := mant_mul (M := mant m) (by rw [hm]; omega) hml
  have hR : Ieee.double.read (sB s m) = .number s (mant m) (expo m) := by rw [read_sB s (by omega), if_pos h2]
  have hO : Ieee.double.read 4607182418800017408 = .number false 4503599627370496 (-52) := by decide
  show Ieee.double.mul _ _ = _
  unfold Ieee.Format.mul
  rw [hR, hO]
  simp only [Ieee.Datum.product, Option.map_some, Bool.false_bne, Ieee.Format.write, Option.some.injEq]
  have hn := nearest_at s (e := expo m) k1 k2 k3 k4 (by rw [he]; clear hF; omega)
  rw [ht, hm, hr, word_sB s (by omega)] at hn
  rw [hm]; exact hn
/-- What a float's sign is taken off, and its exponent. -/
theorem and_low {b : Nat} : b &&& 9223372036854775807 = b % 9223372036854775808 := Nat.and_two_pow_sub_one_eq_mod b 63
theorem and_signf {b : Nat} (hb : b < 18446744073709551616) : b &&& 9227875636482146303 = (if bN b then 9223372036854775808 else 0) + bF b := by
  have low : ∀ r : Nat, r &&& 4503599627370495 = r % 4503599627370496 := fun r => Nat.and_two_pow_sub_one_eq_mod r 52
  by_cases h : 9223372036854775808 ≤ b
  · have hN : bN b = true := decide_eq_true h
    obtain ⟨r, hr⟩ : ∃ r, b = 9223372036854775808 + r := ⟨b - 9223372036854775808, by omega⟩
    have h1 : b = 2 ^ 63 ||| r := by
      have := Nat.two_pow_add_eq_or_of_lt (i := 63) (show r < 2 ^ 63 by omega) 1
      rw [Nat.mul_one] at this
      rw [← this]; exact hr
    rw [hN, if_pos rfl]
    have h2 : b &&& 9227875636482146303 = 2 ^ 63 ||| (r &&& 4503599627370495) := by
      rw [h1, Nat.or_and_distrib_left, show (9227875636482146303 : Nat) = 2 ^ 63 ||| 4503599627370495 by decide]
    have h3 := Nat.two_pow_add_eq_or_of_lt (i := 63) (show r % 4503599627370496 < 2 ^ 63 by omega) 1
    rw [Nat.mul_one] at h3
    rw [h2, low, ← h3]
    unfold bF; omega
  · have hN : bN b = false := decide_eq_false h
    rw [hN, if_neg (by simp), Nat.zero_add]
    have h1 : b &&& 9223372036854775807 = b := by
      rw [show b &&& 9223372036854775807 = b % 9223372036854775808 from Nat.and_two_pow_sub_one_eq_mod b 63]; omega
    have h2 : b &&& 9227875636482146303 = b &&& 4503599627370495 := by
      conv => lhs; rw [← h1, Nat.and_assoc]
      rw [show (9223372036854775807 &&& 9227875636482146303 : Nat) = 4503599627370495 by decide]
    rw [h2, low]; rfl
theorem or_three (s : Bool) {f e : Nat} (hf : f < 4503599627370496) (he : e < 2048) : ((if s then 9223372036854775808 else 0) + f) ||| (4503599627370496 * e) = (if s then 9223372036854775808 else 0) + 4503599627370496 * e + f := by
  have h1 : f ||| (4503599627370496 * e) = 4503599627370496 * e + f := by
    rw [Nat.or_comm]; exact (Nat.two_pow_add_eq_or_of_lt (i := 52) hf e).symm
  cases s
  · simp only [Bool.false_eq_true, if_false, Nat.zero_add]; exact h1
  · simp only [if_true]
    have h2 := Nat.two_pow_add_eq_or_of_lt (i := 63) (show f < 2 ^ 63 by omega) 1
    have h3 := Nat.two_pow_add_eq_or_of_lt (i := 63) (show 4503599627370496 * e + f < 2 ^ 63 by omega) 1
    rw [Nat.mul_one] at h2 h3
    rw [show (9223372036854775808 : Nat) = 2 ^ 63 by decide, h2, Nat.or_assoc, h1, ← h3]
    omega
/-! ### a number times a power of two -/
def shB (k : Int) (b : Nat) : Nat := if b % 9223372036854775808 = 0 then b else ((b : Int) + k * 4503599627370496).toNat
theorem b_parts {b : Nat} (hb : b < 18446744073709551616) : b = (if bN b then 9223372036854775808 else 0) + 4503599627370496 * bP b + bF b := by
  unfold bN bP bF
  by_cases h : 9223372036854775808 ≤ b <;> simp [h] <;> omega
theorem expB_bP {b : Nat} (hf : finB b = true) (hk : kindB b ≠ 0) : (bP b = 0 → expB b ≤ -1023) ∧ (bP b ≠ 0 → expB b = bP b - 1023) := by
  have hmz : mant b ≠ 0 := fun h0 => by
    unfold mant at h0; unfold kindB at hk
    unfold finB at hf
    have hp : bP b < 2047 := by simpa using hf
    split at h0
    · rename_i c; rw [if_neg (by omega), if_neg (by omega), if_neg (by omega)] at hk; exact hk rfl
    · omega
  have hv : (valZ b).natAbs = mant b := valZ_abs b
  have h0 : valZ b ≠ 0 := fun h => by rw [h] at hv; simp at hv; omega
  obtain ⟨hM, hback, -⟩ := dyM_back h0
  obtain ⟨q1, q2⟩ := lenZ_bits hM
  obtain ⟨t, ht⟩ : ∃ t, t = tz (valZ b).natAbs := ⟨_, rfl⟩
  obtain ⟨l, hl⟩ : ∃ l, l = lenW (dig (dyM (valZ b)).natAbs) := ⟨_, rfl⟩
  have hE : expB b = l + (expo b + t) - 1 := by
    unfold expB
    rw [if_neg (by simp [hf, hk]), topD_ne hM, ← hl]
    unfold dyE
    rw [if_neg h0, ← ht]
  have hab : mant b = (dyM (valZ b)).natAbs * 2 ^ t := by
    rw [← hv, ht]
    conv => lhs; rw [hback]
    rw [Int.natAbs_mul, natAbs_two_pow]
  rw [← hl] at q1 q2
  have hT : 0 < 2 ^ t := Nat.two_pow_pos t
  have k1 : mant b < 2 ^ (l + t) := by rw [hab, Nat.pow_add]; exact (Nat.mul_lt_mul_right hT).2 q1
  have k2 : 2 ^ (l + t) ≤ 2 * mant b := by rw [hab, Nat.pow_add, ← Nat.mul_assoc]; exact Nat.mul_le_mul_right _ q2
  have hbf : bF b < 4503599627370496 := bF_lt b
  constructor
  · intro hp
    have hm : mant b = bF b := by unfold mant; rw [if_pos hp]
    have he : expo b = -1074 := by unfold expo; rw [if_pos hp]
    rcases Nat.lt_or_ge (l + t) 53 with hc | hc
    · omega
    · have := Nat.pow_le_pow_right (show 0 < 2 by omega) hc
      have e : (2 : Nat) ^ 53 = 9007199254740992 := by decide
      omega
  · intro hp
    have hm : mant b = bF b + 4503599627370496 := by unfold mant; rw [if_neg hp]
    have he : expo b = (bP b : Int) - 1075 := by unfold expo; rw [if_neg hp]
    have : l + t = 53 := by
      rcases Nat.lt_trichotomy (l + t) 53 with hc | hc | hc
      · have := Nat.pow_le_pow_right (show 0 < 2 by omega) (show l + t ≤ 52 by omega)
        have e : (2 : Nat) ^ 52 = 4503599627370496 := by decide
        omega
      · exact hc
      · have := Nat.pow_le_pow_right (show 0 < 2 by omega) (show 54 ≤ l + t by omega)
        have e : (2 : Nat) ^ 54 = 18014398509481984 := by decide
        omega
    omega
theorem tame_bP {b : Nat} (hb : b < 18446744073709551616) (ht : tameB 100 b = true) : b % 9223372036854775808 = 0 ∨ (b % 9223372036854775808 ≠ 0 ∧ 923 ≤ bP b ∧ bP b ≤ 1122) := by
  unfold tameB at ht
  simp only [Bool.and_eq_true, Bool.or_eq_true, decide_eq_true_eq] at ht
  obtain ⟨hf, ht⟩ := ht
  by_cases hk : kindB b = 0
  · left
    unfold kindB at hk
    have hp : bP b < 2047 := by unfold finB at hf; simpa using hf
    rw [if_neg (by omega)] at hk
    split at hk
    · omega
    · split at hk
      · omega
      · have := b_parts hb
        split at this <;> omega
  · right
    have h := expB_bP hf hk
    have hr : -100 ≤ expB b ∧ expB b < 100 := by omega
    have : bP b ≠ 0 := fun h0 => by have := h.1 h0; omega
    have h2 := h.2 this
    refine ⟨fun h0 => this ?_, by omega, by omega⟩
    unfold bP; omega
theorem shB_at {b : Nat} {k : Int} (hb : b < 18446744073709551616) (h0 : b % 9223372036854775808 ≠ 0) (h : 923 ≤ bP b ∧ bP b ≤ 1122) (hk : -100 ≤ k ∧ k ≤ 100) : shB k b < 18446744073709551616 ∧ bN (shB k b) = bN b ∧ (bP (shB k b) : Int) = bP b + k ∧ bF (shB k b) = bF b := by
  unfold shB
  rw [if_neg h0]
  obtain ⟨x, hx⟩ : ∃ x : Nat, x = ((b : Int) + k * 4503599627370496).toNat := ⟨_, rfl⟩
  rw [← hx]
  have e := b_parts hb
  have hF := bF_lt b
  have hN : bN b = decide (9223372036854775808 ≤ b) := rfl
  obtain ⟨e2, he2⟩ : ∃ e2 : Nat, (e2 : Int) = bP b + k := ⟨((bP b : Int) + k).toNat, by omega⟩
  have hxx : x = (if bN b then 9223372036854775808 else 0) + 4503599627370496 * e2 + bF b := by
    split at e <;> rename_i hs <;> simp only [hs, if_true, if_false, Bool.false_eq_true] <;> omega
  have a1 : bF x = bF b := by
    show x % 4503599627370496 = bF b
    split at hxx <;> omega
  have a2 : bP x = e2 := by
    show x / 4503599627370496 % 2048 = e2
    split at hxx <;> omega
  refine ⟨by split at hxx <;> omega, ?_, by omega, a1⟩
  show decide (9223372036854775808 ≤ x) = bN b
  cases hs : bN b
  · rw [hs] at hxx; simp only [Bool.false_eq_true, if_false] at hxx
    exact decide_eq_false (by omega)
  · rw [hs] at hxx; simp only [if_true] at hxx
    exact decide_eq_true (by omega)
theorem uV_none {b : Nat} (h : b % 9223372036854775808 = 0) : uV b = 0 := by
  have hp : bP b = 0 := by unfold bP; omega
  have hf : bF b = 0 := by unfold bF; omega
  have hm : mant b = 0 := by unfold mant; rw [if_pos hp, hf]
  unfold uV valZ
  rw [hm]; simp
theorem fin_sh {b : Nat} {k : Int} (hb : b < 18446744073709551616) (ht : tameB 100 b = true) (hk : -100 ≤ k ∧ k ≤ 100) : shB k b < 18446744073709551616 ∧ finB (shB k b) = true := by
  rcases tame_bP hb ht with h | ⟨h0, h⟩
  · unfold shB
    rw [if_pos h]
    refine ⟨hb, ?_⟩
    unfold finB
    exact decide_eq_true (by unfold bP; omega)
  · obtain ⟨h1, -, h3, -⟩ := shB_at hb h0 h hk
    refine ⟨h1, ?_⟩
    unfold finB
    exact decide_eq_true (by omega)
theorem uV_sh {b : Nat} {k : Int} (hb : b < 18446744073709551616) (ht : tameB 100 b = true) (hk : -100 ≤ k ∧ k ≤ 100) : (2 : Int) ^ k.toNat * uV b = 2 ^ (-k).toNat * uV (shB k b) := by
  rcases tame_bP hb ht with h | ⟨h0, h⟩
  · have : shB k b = b := by unfold shB; rw [if_pos h]
    rw [this, uV_none h]; simp
  · obtain ⟨h1, h2, h3, h4⟩ := shB_at hb h0 h hk
    have e1 : expo b = (bP b : Int) - 1075 := by unfold expo; rw [if_neg (by omega)]
    have e2 : expo (shB k b) = (bP b : Int) + k - 1075 := by unfold expo; rw [if_neg (by omega), h3]
    have e3 : valZ (shB k b) = valZ b := by
      have q1 : mant (shB k b) = mant b := by
        unfold mant
        rw [h4, if_neg (by omega), if_neg (by omega)]
      unfold valZ
      rw [h2, q1]
    unfold uV
    rw [e3, e1, e2]
    rw [Int.mul_left_comm, Int.mul_left_comm ((2 : Int) ^ (-k).toNat), ← Int.pow_add, ← Int.pow_add]
    congr 2
    omega
/-! ### a row times a power of two -/
/-- The numbers of a matrix where the first ones of a row are taken times a power of two. -/
def scaG (k : Int) (c a : Nat) (l T : List Nat) (j : Nat) : Prop := T.length = l.length ∧ Bt T ∧ ∀ q, T.getD q 0 = if a * c ≤ q ∧ q < a * c + j then shB k (l.getD q 0) else l.getD q 0
theorem scaG_next {k : Int} {c a : Nat} {l T : List Nat} {j : Nat} (h : scaG k c a l T j) (hq : a * c + j < l.length) (hs : shB k (l.getD (a * c + j) 0) < 18446744073709551616) : T.getD (a * c + j) 0 = l.getD (a * c + j) 0 ∧ scaG k c a l (T.set (a * c + j) (shB k (l.getD (a * c + j) 0))) (j + 1) := by
  obtain ⟨h1, h2, h3⟩ := h
  refine ⟨by rw [h3, if_neg (by omega)], by simp [h1], h2.set hs _, fun q => ?_⟩
  rw [getD_set (by omega)]
  by_cases hc : q = a * c + j
  · rw [if_pos hc, if_pos (by omega), hc]
  · rw [if_neg hc, h3]
    by_cases h4 : a * c ≤ q ∧ q < a * c + j
    · rw [if_pos h4, if_pos (by omega)]
    · rw [if_neg h4, if_neg (by omega)]
theorem rank_scale {A B : Nat → Nat → Int} {n a r : Nat} {u v : Int} (hu : u ≠ 0) (hv : v ≠ 0) (ha : ∀ c, u * A a c = v * B a c) (ho : ∀ i, i ≠ a → A i = B i) (h : IsRank (rowsOf n A) r) : IsRank (rowsOf n B) r := by
  refine h.made ?_ ?_
  · intro q hq
    obtain ⟨i, hi, rfl⟩ := mem_rowsOf.1 hq
    by_cases hc : i = a
    · subst hc
      refine ⟨v, hv, ?_⟩
      have h1 : Span (rowsOf n A) (A i) := Span.mem (mem_rowsOf.2 ⟨i, hi, rfl⟩)
      have h2 := Span.mul u h1
      have e : (fun c => u * A i c) = fun c => v * B i c := funext ha
      rwa [e] at h2
    · rw [← ho i hc]; exact one_span (mem_rowsOf.2 ⟨i, hi, rfl⟩)
  · intro q hq
    obtain ⟨i, hi, rfl⟩ := mem_rowsOf.1 hq
    by_cases hc : i = a
    · subst hc
      refine ⟨u, hu, ?_⟩
      have h1 : Span (rowsOf n B) (B i) := Span.mem (mem_rowsOf.2 ⟨i, hi, rfl⟩)
      have h2 := Span.mul v h1
      have e : (fun c => v * B i c) = fun c => u * A i c := funext fun c => (ha c).symm
      rwa [e] at h2
    · rw [ho i hc]; exact one_span (mem_rowsOf.2 ⟨i, hi, rfl⟩)
theorem scaG_rank {k : Int} {r c a : Nat} {l T : List Nat} (h : scaG k c a l T c) (hb : Bt l) (hl : l.length = r * c) (ht : l.all (tameB 100) = true) (hk : -100 ≤ k ∧ k ≤ 100) {d : Nat} (hr : IsRank (rowsOf r (mF r c l)) d) : IsRank (rowsOf r (mF r c T)) d := by
  obtain ⟨h1, h2, h3⟩ := h
  have p1 : (2 : Int) ^ k.toNat ≠ 0 := by have := two_pow_pos' k.toNat; omega
  have p2 : (2 : Int) ^ (-k).toNat ≠ 0 := by have := two_pow_pos' (-k).toNat; omega
  refine rank_scale (a := a) p1 p2 (fun p => ?_) (fun i hi => ?_) hr
  · unfold mF fv
    by_cases hc : a < r ∧ p < c
    · rw [if_pos hc, if_pos hc, h3, if_pos ⟨by omega, by omega⟩]
      have hq : a * c + p < l.length := by
        rw [hl]
        have := Nat.mul_le_mul_right c (show a + 1 ≤ r by omega)
        rw [Nat.add_mul] at this; omega
      have hg : l.getD (a * c + p) 0 = l[a * c + p] := by simp [List.getD_eq_getElem?_getD, List.getElem?_eq_getElem hq]
      rw [hg]
      exact uV_sh (hb.get hq) (List.all_eq_true.1 ht _ (List.getElem_mem hq)) hk
    · rw [if_neg hc, if_neg hc]; simp
  · funext p
    unfold mF fv
    by_cases hc : i < r ∧ p < c
    · rw [if_pos hc, if_pos hc, h3, if_neg]
      rintro ⟨g1, g2⟩
      rcases Nat.lt_or_gt_of_ne hi with g | g
      · have := Nat.mul_le_mul_right c (show i + 1 ≤ a by omega)
        rw [Nat.add_mul] at this; omega
      · have := Nat.mul_le_mul_right c (show a + 1 ≤ i by omega)
        rw [Nat.add_mul] at this; omega
    · rw [if_neg hc, if_neg hc]
theorem scaG_chk {k : Int} {r c a : Nat} {l T : List Nat} (h : scaG k c a l T c) (hm : mChk r c l = 0) (hb : Bt l) (ht : l.all (tameB 100) = true) (hk : -100 ≤ k ∧ k ≤ 100) : mChk r c T = 0 := by
  obtain ⟨h1, h2, h3⟩ := h
  unfold mChk at hm ⊢
  have hO : mOk r c T = mOk r c l := by unfold mOk; rw [h1]
  rw [hO]
  split at hm
  · rename_i ho
    rw [if_pos ho, if_pos]
    refine List.all_eq_true.2 fun x hx => ?_
    obtain ⟨q, hq, rfl⟩ := List.getElem_of_mem hx
    have e := h3 q
    have hq2 : q < l.length := by omega
    have g1 : T.getD q 0 = T[q] := by simp [List.getD_eq_getElem?_getD, List.getElem?_eq_getElem hq]
    have g2 : l.getD q 0 = l[q] := by simp [List.getD_eq_getElem?_getD, List.getElem?_eq_getElem hq2]
    rw [g1, g2] at e
    have ht2 := List.all_eq_true.1 ht _ (List.getElem_mem hq2)
    rw [e]
    split
    · exact (fin_sh (hb.get hq2) ht2 hk).2
    · unfold tameB at ht2
      simp only [Bool.and_eq_true] at ht2
      exact ht2.1
  · cases hm
end Go.Proofs.YtphndngifjgeoaaDoor
