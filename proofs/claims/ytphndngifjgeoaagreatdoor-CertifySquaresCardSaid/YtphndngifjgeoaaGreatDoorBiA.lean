/- Bitwise operations on numbers that are not below 0, by value; for every program. -/
import Derived.Test.YtphndngifjgeoaaGreatDoorBvO
set_option linter.unusedVariables false
set_option linter.unusedSimpArgs false
namespace Go.Proofs.YtphndngifjgeoaaGreatDoor
section
variable {P : Program} {t : TypeId}
theorem ofInt_nat (w a : Nat) : BitVec.ofInt w (a : Int) = BitVec.ofNat w a := BitVec.ofInt_natCast w a
theorem and_lt {a b k : Nat} (h : a < 2 ^ k) : a &&& b < 2 ^ k := Nat.lt_of_le_of_lt Nat.and_le_left h
theorem and_u64 {a b : Nat} (ha : a < 18446744073709551616) (hb : b < 18446744073709551616) : binPV P .and t (.int .u64 (a : Int)) (.int .u64 (b : Int)) = some (.int .u64 ((a &&& b : Nat) : Int)) := by
  have := and_lt (b := b) (k := 64) (show a < 2 ^ 64 by omega)
  rw [binPV_and, bits_u64, ofInt_nat, ofInt_nat, BitVec.toNat_and, BitVec.toNat_ofNat, BitVec.toNat_ofNat, Nat.mod_eq_of_lt (by omega), Nat.mod_eq_of_lt (by omega), wrap_u64_nat _ (by omega)]
theorem and_i64 {a b : Nat} (ha : a < 9223372036854775808) (hb : b < 9223372036854775808) : binPV P .and t (.int .i64 (a : Int)) (.int .i64 (b : Int)) = some (.int .i64 ((a &&& b : Nat) : Int)) := by
  have := and_lt (b := b) (k := 63) (show a < 2 ^ 63 by omega)
  rw [binPV_and, bits_i64, ofInt_nat, ofInt_nat, BitVec.toNat_and, BitVec.toNat_ofNat, BitVec.toNat_ofNat, Nat.mod_eq_of_lt (by omega), Nat.mod_eq_of_lt (by omega), wrap_i64_nat _ (by omega)]
theorem and_u64_lit {a n : Nat} (ha : a < 18446744073709551616) (hb : (no_index (OfNat.ofNat n) : Nat) < 18446744073709551616) : binPV P .and t (.int .u64 (a : Int)) (.int .u64 (no_index (OfNat.ofNat n) : Int)) = some (.int .u64 ((a &&& (no_index (OfNat.ofNat n) : Nat) : Nat) : Int)) := and_u64 ha hb
theorem and_i64_lit {a n : Nat} (ha : a < 9223372036854775808) (hb : (no_index (OfNat.ofNat n) : Nat) < 9223372036854775808) : binPV P .and t (.int .i64 (a : Int)) (.int .i64 (no_index (OfNat.ofNat n) : Int)) = some (.int .i64 ((a &&& (no_index (OfNat.ofNat n) : Nat) : Nat) : Int)) := and_i64 ha hb
theorem shr_nat {k k' : IntKind} {a b : Nat} (h : b ≤ k.bits) : binPV P .shr t (.int k (a : Int)) (.int k' (b : Int)) = some (.int k ((a / 2 ^ b : Nat) : Int)) := by
  rw [binPV_shr, if_neg (by omega), Int.toNat_natCast, Nat.min_eq_left h]
  congr 2
  rw [Int.fdiv_eq_ediv_of_nonneg _ (Int.le_of_lt (Int.pow_pos (by omega)))]
  simp
theorem shr_nat_lit {k k' : IntKind} {a n : Nat} (h : (no_index (OfNat.ofNat n) : Nat) ≤ k.bits) : binPV P .shr t (.int k (a : Int)) (.int k' (no_index (OfNat.ofNat n) : Int)) = some (.int k ((a / 2 ^ (no_index (OfNat.ofNat n) : Nat) : Nat) : Int)) := shr_nat h
theorem shl_one_i64 {k' : IntKind} {b : Nat} (h : b < 63) : binPV P .shl t (.int .i64 1) (.int k' (b : Int)) = some (.int .i64 ((2 ^ b : Nat) : Int)) := by
  rw [binPV_shl, if_neg (by omega), Int.toNat_natCast, Nat.min_eq_left (by rw [bits_i64]; omega)]
  congr 2
  have h2 : 2 ^ b < 2 ^ 63 := Nat.pow_lt_pow_right (by omega) h
  have : (1 : Int) * 2 ^ b = ((2 ^ b : Nat) : Int) := by simp
  rw [this, wrap_i64_nat _ (by omega)]
theorem andNot_i64 {a b : Nat} (ha : a < 9223372036854775808) (hb : b < 9223372036854775808) : ∃ c : Nat, binPV P .andNot t (.int .i64 (a : Int)) (.int .i64 (b : Int)) = some (.int .i64 (c : Int)) ∧ c ≤ a ∧ ∀ i, c.testBit i = (a.testBit i && !b.testBit i) := by
  refine ⟨a &&& (2 ^ 64 - 1 - b), ?_, Nat.and_le_left, fun i => ?_⟩
  · have := and_lt (b := 2 ^ 64 - 1 - b) (k := 63) (show a < 2 ^ 63 by omega)
    rw [binPV_andNot, bits_i64, ofInt_nat, ofInt_nat, BitVec.toNat_and, BitVec.toNat_not, BitVec.toNat_ofNat, BitVec.toNat_ofNat, Nat.mod_eq_of_lt (by omega), Nat.mod_eq_of_lt (by omega), wrap_i64_nat _ (by omega)]
  · rw [Nat.testBit_and]
    by_cases hi : i < 63
    · rw [show 2 ^ 64 - 1 - b = 2 ^ 64 - (b + 1) by omega, Nat.testBit_two_pow_sub_succ (by omega), decide_eq_true (show i < 64 by omega), Bool.true_and]
    · have : a.testBit i = false := Nat.testBit_lt_two_pow (Nat.lt_of_lt_of_le (show a < 2 ^ 63 by omega) (Nat.pow_le_pow_right (by omega) (by omega)))
      simp [this]
theorem bit_and_one (a i : Nat) : (a / 2 ^ i) &&& 1 = if a.testBit i then 1 else 0 := by
  have h1 : (a / 2 ^ i) &&& 1 = (a / 2 ^ i) % 2 := by rw [Nat.and_one_is_mod]
  rw [h1, Nat.testBit_eq_decide_div_mod_eq]
  have := Nat.mod_two_eq_zero_or_one (a / 2 ^ i)
  by_cases h : a / 2 ^ i % 2 = 1
  · simp [h]
  · simp [h]; omega
/-- A bit by a shift and a mask. -/
theorem bit_get {t t2 : TypeId} {P2 : Program} {a i : Nat} (ha : a < 9223372036854775808) (hi : i < 64) : ∃ q : Nat, binPV P .shr t (.int .i64 (a : Int)) (.int .i64 (i : Int)) = some (.int .i64 (q : Int)) ∧ binPV P2 .and t2 (.int .i64 (q : Int)) (.int .i64 1) = some (.int .i64 (if a.testBit i then 1 else 0)) := by
  refine ⟨a / 2 ^ i, shr_nat (by simp; omega), ?_⟩
  have := and_i64_lit (P := P2) (t := t2) (a := a / 2 ^ i) (n := 1) (Nat.lt_of_le_of_lt (Nat.div_le_self _ _) ha) (by decide)
  rw [bit_and_one] at this
  refine this.trans ?_
  by_cases h : a.testBit i = true <;> simp [h]
end
end Go.Proofs.YtphndngifjgeoaaGreatDoor
