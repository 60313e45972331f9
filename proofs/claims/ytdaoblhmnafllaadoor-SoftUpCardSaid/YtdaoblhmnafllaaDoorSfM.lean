/- Several texts as one: SfA, SfB, SfC, SfD, SfE, SfF, SfG, SfH, SfI. -/
import Derived.Test.YtdaoblhmnafllaaDoorDyM
import Derived.Test.YtdaoblhmnafllaaDoorBiA
/-! SfA: A number of binary64 by its bits: fields, kinds, signs, by value. -/
set_option linter.unusedVariables false
set_option linter.unusedSimpArgs false
namespace Go.Proofs.YtdaoblhmnafllaaDoor
open Go.Proofs

def bN (b : Nat) : Bool := decide (9223372036854775808 ≤ b)
def bP (b : Nat) : Nat := b / 4503599627370496 % 2048
def bF (b : Nat) : Nat := b % 4503599627370496
theorem bP_le (b : Nat) : bP b ≤ 2047 := by unfold bP; omega
theorem bF_lt (b : Nat) : bF b < 4503599627370496 := by unfold bF; omega
theorem and_mask (x k : Nat) : x &&& (2 ^ k - 1) = x % 2 ^ k := Nat.and_two_pow_sub_one_eq_mod x k
theorem sign_bits {P : Program} {t u : TypeId} {b : Nat} (hb : b < 18446744073709551616) : ∃ q : Nat, binPV P .shr t (.int .u64 (b : Int)) (.int .u64 63) = some (.int .u64 (q : Int)) ∧ binPV P .eql u (.int .u64 (q : Int)) (.int .u64 1) = some (.bool (bN b)) := by
  refine ⟨b / 9223372036854775808, by have := shr_nat_lit (P := P) (t := t) (k := .u64) (k' := .u64) (a := b) (n := 63) (by decide); exact this, ?_⟩
  rw [binPV_eql]
  congr 2
  unfold bN
  rw [Bool.eq_iff_iff]
  simp
  omega
theorem power_bits {P : Program} {t u : TypeId} {b : Nat} (hb : b < 18446744073709551616) : ∃ q : Nat, binPV P .shr t (.int .u64 (b : Int)) (.int .u64 52) = some (.int .u64 (q : Int)) ∧ binPV P .and u (.int .u64 (q : Int)) (.int .u64 2047) = some (.int .u64 (bP b : Nat)) := by
  refine ⟨b / 4503599627370496, by have := shr_nat_lit (P := P) (t := t) (k := .u64) (k' := .u64) (a := b) (n := 52) (by decide); exact this, ?_⟩
  have := and_u64_lit (P := P) (t := u) (a := b / 4503599627370496) (n := 2047) (by omega) (by decide)
  rw [show b / 4503599627370496 &&& 2047 = bP b from and_mask _ 11] at this
  exact this
theorem frac_bits {P : Program} {u : TypeId} {b : Nat} (hb : b < 18446744073709551616) : binPV P .and u (.int .u64 (b : Int)) (.int .u64 4503599627370495) = some (.int .u64 (bF b : Nat)) := by
  have := and_u64_lit (P := P) (t := u) (a := b) (n := 4503599627370495) (by omega) (by decide)
  rw [show b &&& 4503599627370495 = bF b from and_mask _ 52] at this
  exact this
theorem Split_call {n : Nat} (hn : 0 < n) (b : Nat) (hb : b < 18446744073709551616) {Q : PV → Nat → List Nat → Prop} (hQ : Q (.agg [.bool (bN b), .int .i64 (bP b : Nat), .int .u64 (bF b : Nat)]) n []) : PCall Tryd.prog 33 [.int .u64 b] n Q := by
  refine of33 hn ?_
  obtain ⟨q, h1, h2⟩ := sign_bits (P := Tryd.prog) (t := 23) (u := 23) hb
  obtain ⟨r, h3, h4⟩ := power_bits (P := Tryd.prog) (t := 23) (u := 23) hb
  have h5 := frac_bits (P := Tryd.prog) (u := 22) hb
  have := bP_le b
  simpa (disch := omega) [-binPV_shr, -binPV_and, -binPV_eql, c33, h1, h2, h3, h4, h5] using hQ
theorem eqFields53 (a a' : Bool) (p p' f f' : Int) : binPV Tryd.prog .eql 53 (.agg [.bool a, .int .i64 p, .int .u64 f]) (.agg [.bool a', .int .i64 p', .int .u64 f']) = some (.bool (a == a' && (p == p' && f == f'))) := by
  have h1 : Tryd.prog.stoodInHeld 53 = false := by kernel_rfl
  have h2 : Tryd.prog.eqGuardType Tryd.prog.depth 53 = false := by kernel_rfl
  simp only [binPV, eqAggV, Tryd.underlying53, h1, h2, and_self, if_true]
  simp [eqFieldsV, Tryd.underlying4, Tryd.underlying3, Tryd.underlying22]
  cases h3 : a == a' <;> cases h4 : p == p' <;> cases h5 : f == f' <;> simp_all
def kindB (b : Nat) : Int := if bP b = 2047 then (if bF b = 0 then 3 else 4) else if 0 < bP b then 2 else if 0 < bF b then 1 else 0
theorem Kind_call {n : Nat} (hn : 0 < n) (b : Nat) (hb : b < 18446744073709551616) {Q : PV → Nat → List Nat → Prop} (hQ : Q (.int .i64 (kindB b)) n []) : PCall Tryd.prog 10 [.int .u64 b] n Q := by
  refine of10 hn ?_
  simp (disch := omega) [c10]
  refine CallK.of (by simp) (Split_call hn b hb ?_)
  obtain ⟨p, hp⟩ : ∃ p, p = bP b := ⟨_, rfl⟩
  obtain ⟨f, hf⟩ : ∃ f, f = bF b := ⟨_, rfl⟩
  unfold kindB at hQ
  rw [← hp, ← hf] at hQ
  rw [← hp, ← hf]
  by_cases h1 : p = 2047
  · subst h1
    by_cases h2 : f = 0
    · subst h2
      simp at hQ
      simpa (disch := omega) [eqFields53] using hQ
    · simp [h2] at hQ
      simpa (disch := omega) [eqFields53, h2] using hQ
  · by_cases h3 : 0 < p
    · simp [h1, h3] at hQ
      simpa (disch := omega) [eqFields53, h1, h3] using hQ
    · by_cases h4 : 0 < f
      · simp [h1, h3, h4] at hQ
        simpa (disch := omega) [eqFields53, h1, h3, h4] using hQ
      · simp [h1, h3, h4] at hQ
        simpa (disch := omega) [eqFields53, h1, h3, h4] using hQ
theorem Sign_call {n : Nat} (hn : 0 < n) (b : Nat) (hb : b < 18446744073709551616) {Q : PV → Nat → List Nat → Prop} (hQ : Q (.bool (bN b)) n []) : PCall Tryd.prog 12 [.int .u64 b] n Q := by
  refine of12 hn ?_
  obtain ⟨q, h1, h2⟩ := sign_bits (P := Tryd.prog) (t := 23) (u := 23) hb
  simpa (disch := omega) [-binPV_shr, -binPV_eql, c12, h1, h2] using hQ
def finB (b : Nat) : Bool := decide (bP b < 2047)
theorem Finite_call {n : Nat} (hn : 0 < n) (b : Nat) (hb : b < 18446744073709551616) {Q : PV → Nat → List Nat → Prop} (hQ : Q (.bool (finB b)) n []) : PCall Tryd.prog 14 [.int .u64 b] n Q := by
  refine of14 hn ?_
  simp (disch := omega) [c14]
  refine CallK.of (by simp) (Kind_call hn b hb ?_)
  have hp := bP_le b
  unfold finB at hQ
  unfold kindB
  by_cases h1 : bP b = 2047
  · by_cases h2 : bF b = 0
    · simp [h1] at hQ
      simpa (disch := omega) [h1, h2] using hQ
    · simp [h1] at hQ
      simpa (disch := omega) [h1, h2] using hQ
  · have h5 : bP b < 2047 := by omega
    by_cases h3 : 0 < bP b
    · simp [h5] at hQ
      simpa (disch := omega) [h1, h3] using hQ
    · by_cases h4 : 0 < bF b
      · simp [h5] at hQ
        simpa (disch := omega) [h1, h3, h4] using hQ
      · simp [h5] at hQ
        simpa (disch := omega) [h1, h3, h4] using hQ
/-- The number with the other sign. -/
def mB (b : Nat) : Nat := if bN b then b - 9223372036854775808 else b + 9223372036854775808
theorem xor_top {x : Nat} (h : x < 9223372036854775808) : x ^^^ 9223372036854775808 = x + 9223372036854775808 := by
  apply Nat.eq_of_testBit_eq
  intro i
  rw [Nat.testBit_xor, show (9223372036854775808 : Nat) = 2 ^ 63 by decide, Nat.testBit_two_pow, Nat.add_comm]
  by_cases hi : 63 = i
  · subst hi
    rw [Nat.testBit_two_pow_add_eq]; simp
  · by_cases hlt : i < 63
    · rw [Nat.testBit_two_pow_add_gt hlt]; simp [hi]
    · have h1 : x.testBit i = false := Nat.testBit_lt_two_pow (Nat.lt_of_lt_of_le (show x < 2 ^ 63 by omega) (Nat.pow_le_pow_right (by omega) (by omega)))
      have h2 : (2 ^ 63 + x).testBit i = false := Nat.testBit_lt_two_pow (Nat.lt_of_lt_of_le (show 2 ^ 63 + x < 2 ^ 64 by omega) (Nat.pow_le_pow_right (by omega) (by omega)))
      rw [h1, h2]; simp [hi]
theorem xor_sign {b : Nat} (hb : b < 18446744073709551616) : b ^^^ 9223372036854775808 = mB b := by
  unfold mB bN
  by_cases h : 9223372036854775808 ≤ b
  · have h1 := xor_top (x := b - 9223372036854775808) (by omega)
    rw [show b - 9223372036854775808 + 9223372036854775808 = b by omega] at h1
    simp only [h, decide_true, if_true]
    have h2 := congrArg (· ^^^ 9223372036854775808) h1
    simp only [Nat.xor_assoc, Nat.xor_self, Nat.xor_zero] at h2
    exact h2.symm
  · simp only [h, decide_false, Bool.false_eq_true, if_false]
    exact xor_top (by omega)
theorem mB_lt {b : Nat} (hb : b < 18446744073709551616) : mB b < 18446744073709551616 := by
  unfold mB bN; split
  · omega
  · rename_i h; simp at h; omega
theorem xor_u64 {P : Program} {t : TypeId} {a b : Nat} (ha : a < 18446744073709551616) (hb : b < 18446744073709551616) : binPV P .xor t (.int .u64 (a : Int)) (.int .u64 (b : Int)) = some (.int .u64 ((a ^^^ b : Nat) : Int)) := by
  have := Nat.xor_lt_two_pow (show a < 2 ^ 64 by omega) (show b < 2 ^ 64 by omega)
  rw [binPV_xor, bits_u64, ofInt_nat, ofInt_nat, BitVec.toNat_xor, BitVec.toNat_ofNat, BitVec.toNat_ofNat, Nat.mod_eq_of_lt (show a < 2 ^ 64 by omega), Nat.mod_eq_of_lt (show b < 2 ^ 64 by omega), wrap_u64_nat _ (by omega)]
theorem Minus_call {n : Nat} (hn : 0 < n) (b : Nat) (hb : b < 18446744073709551616) {Q : PV → Nat → List Nat → Prop} (hQ : Q (.int .u64 (mB b : Nat)) n []) : PCall Tryd.prog 16 [.int .u64 b] n Q := by
  refine of16 hn ?_
  have h : binPV Tryd.prog .xor 23 (.int .u64 (b : Int)) (.int .u64 9223372036854775808) = some (.int .u64 (mB b : Nat)) := by
    rw [← xor_sign hb]; exact xor_u64 (b := 9223372036854775808) hb (by decide)
  simpa (disch := omega) [-binPV_xor, c16, h] using hQ

/-! ### the document's -/
theorem tmod_nat (a b : Nat) : (a : Int).tmod (b : Int) = ((a % b : Nat) : Int) := (Int.ofNat_tmod a b).symm
theorem tdiv_nat (a b : Nat) : (a : Int).tdiv (b : Int) = ((a / b : Nat) : Int) := (Int.ofNat_tdiv a b).symm
theorem RefNegB_call {n : Nat} (hn : 0 < n) (b : Nat) (hb : b < 18446744073709551616) {Q : PV → Nat → List Nat → Prop} (hQ : Q (.bool (bN b)) n []) : PCall Tryd.prog 13 [.int .u64 b] n Q := by
  refine of13 hn ?_
  obtain ⟨q, hq⟩ : ∃ q, q = b / 9223372036854775808 := ⟨_, rfl⟩
  have h : binPV Tryd.prog .quo 22 (.int .u64 (b : Int)) (.int .u64 9223372036854775808) = some (.int .u64 (q : Nat)) := by
    rw [binPV_quo, if_neg (by omega), show (9223372036854775808 : Int) = ((9223372036854775808 : Nat) : Int) from rfl, tdiv_nat, ← hq, wrap_u64_nat _ (by omega)]
  have h2 : bN b = decide (q = 1) := by unfold bN; rw [Bool.eq_iff_iff]; simp; omega
  rw [h2] at hQ
  simpa (disch := omega) [-binPV_quo, c13, h] using hQ
theorem RefPower_call {n : Nat} (hn : 0 < n) (b : Nat) (hb : b < 18446744073709551616) {Q : PV → Nat → List Nat → Prop} (hQ : Q (.int .i64 (bP b : Nat)) n []) : PCall Tryd.prog 34 [.int .u64 b] n Q := by
  refine of34 hn ?_
  obtain ⟨q, hq⟩ : ∃ q, q = b % 9223372036854775808 := ⟨_, rfl⟩
  have h : binPV Tryd.prog .rem 22 (.int .u64 (b : Int)) (.int .u64 9223372036854775808) = some (.int .u64 (q : Nat)) := by
    rw [binPV_rem, if_neg (by omega), show (9223372036854775808 : Int) = ((9223372036854775808 : Nat) : Int) from rfl, tmod_nat, ← hq]
  have h2 : binPV Tryd.prog .quo 22 (.int .u64 (q : Int)) (.int .u64 4503599627370496) = some (.int .u64 (bP b : Nat)) := by
    rw [binPV_quo, if_neg (by omega), show (4503599627370496 : Int) = ((4503599627370496 : Nat) : Int) from rfl, tdiv_nat, show q / 4503599627370496 = bP b by unfold bP; omega, wrap_u64_nat _ (by have := bP_le b; omega)]
  have := bP_le b
  simpa (disch := omega) [-binPV_quo, -binPV_rem, c34, h, h2] using hQ
theorem RefFrac_call {n : Nat} (hn : 0 < n) (b : Nat) (hb : b < 18446744073709551616) {Q : PV → Nat → List Nat → Prop} (hQ : Q (.int .u64 (bF b : Nat)) n []) : PCall Tryd.prog 35 [.int .u64 b] n Q := by
  refine of35 hn ?_
  have h : binPV Tryd.prog .rem 22 (.int .u64 (b : Int)) (.int .u64 4503599627370496) = some (.int .u64 (bF b : Nat)) := by
    rw [binPV_rem, if_neg (by omega), show (4503599627370496 : Int) = ((4503599627370496 : Nat) : Int) from rfl, tmod_nat]; rfl
  simpa (disch := omega) [-binPV_rem, c35, h] using hQ
theorem RefKindB_call {n : Nat} (hn : 0 < n) (b : Nat) (hb : b < 18446744073709551616) {Q : PV → Nat → List Nat → Prop} (hQ : Q (.int .i64 (kindB b)) n []) : PCall Tryd.prog 11 [.int .u64 b] n Q := by
  refine of11 hn ?_
  have hp := bP_le b
  have hf := bF_lt b
  unfold kindB at hQ
  simp (disch := omega) [c11]
  refine CallK.of (by simp) (RefPower_call hn b hb ?_)
  by_cases h1 : bP b = 2047
  · simp [h1] at hQ
    simp (disch := omega) [h1]
    refine CallK.of (by simp) (RefFrac_call hn b hb ?_)
    by_cases h2 : bF b = 0
    · simp [h2] at hQ
      simpa (disch := omega) [h2] using hQ
    · simp [h2] at hQ
      simpa (disch := omega) [h2] using hQ
  · simp [h1] at hQ
    simp (disch := omega) [h1]
    refine CallK.of (by simp) (RefPower_call hn b hb ?_)
    by_cases h3 : 0 < bP b
    · simp [h3] at hQ
      simpa (disch := omega) [h3] using hQ
    · simp [h3] at hQ
      simp (disch := omega) [h3]
      refine CallK.of (by simp) (RefFrac_call hn b hb ?_)
      by_cases h4 : 0 < bF b
      · simp [h4] at hQ
        simpa (disch := omega) [h4] using hQ
      · simp [h4] at hQ
        simpa (disch := omega) [h4] using hQ
theorem RefFiniteB_call {n : Nat} (hn : 0 < n) (b : Nat) (hb : b < 18446744073709551616) {Q : PV → Nat → List Nat → Prop} (hQ : Q (.bool (finB b)) n []) : PCall Tryd.prog 15 [.int .u64 b] n Q := by
  refine of15 hn ?_
  unfold finB at hQ
  simp (disch := omega) [c15]
  refine CallK.of (by simp) (RefPower_call hn b hb ?_)
  simpa (disch := omega) [] using hQ
theorem RefMinus_call {n : Nat} (hn : 0 < n) (b : Nat) (hb : b < 18446744073709551616) {Q : PV → Nat → List Nat → Prop} (hQ : Q (.int .u64 (mB b : Nat)) n []) : PCall Tryd.prog 17 [.int .u64 b] n Q := by
  refine of17 hn ?_
  simp (disch := omega) [c17]
  refine CallK.of (by simp) (RefNegB_call hn b hb ?_)
  unfold mB bN at hQ
  unfold bN
  by_cases h : 9223372036854775808 ≤ b
  · have h2 : IntKind.u64.wrap ((b : Int) - 9223372036854775808) = ((b - 9223372036854775808 : Nat) : Int) := by rw [wrap_u64_eq]; omega
    simp only [h, decide_true, if_true] at hQ
    simpa (disch := omega) [-wrap_u64_at, h, h2] using hQ
  · have h2 : IntKind.u64.wrap ((b : Int) + 9223372036854775808) = ((b + 9223372036854775808 : Nat) : Int) := by rw [wrap_u64_eq]; omega
    simp only [h, decide_false, Bool.false_eq_true, if_false] at hQ
    simpa (disch := omega) [-wrap_u64_at, h, h2] using hQ
end Go.Proofs.YtdaoblhmnafllaaDoor

/-! SfB: A number's value, by value. -/
set_option linter.unusedVariables false
set_option linter.unusedSimpArgs false
namespace Go.Proofs.YtdaoblhmnafllaaDoor
open Go.Proofs

theorem newSid_le {a b c : Nat} {i : Sid} (h : a ≤ b) (d : newSid b c i) : newSid a c i := by
  rcases d with rfl | ⟨d1, d2⟩
  · exact .inl rfl
  · exact .inr ⟨by omega, d2⟩

def mant (b : Nat) : Nat := if bP b = 0 then bF b else bF b + 4503599627370496
def expo (b : Nat) : Int := if bP b = 0 then -1074 else (bP b : Int) - 1075
def valZ (b : Nat) : Int := if bN b then -(mant b : Int) else mant b
theorem mant_lt (b : Nat) : mant b < 9007199254740992 := by have := bF_lt b; unfold mant; split <;> omega
theorem expo_le (b : Nat) : -1074 ≤ expo b ∧ expo b ≤ 972 := by have := bP_le b; unfold expo; split <;> omega
theorem valZ_abs (b : Nat) : (valZ b).natAbs = mant b := by unfold valZ; split <;> simp
theorem valZ_neg (b : Nat) : decide (valZ b < 0) = (bN b && !decide (mant b = 0)) := by
  unfold valZ
  cases h : bN b
  · simp
  · by_cases h0 : mant b = 0
    · simp [h0]
    · simp [h0]; omega
theorem sz_val (b : Nat) : sz (valZ b) 2 := by
  have := mant_lt b
  unfold sz; rw [valZ_abs]; omega
theorem Parts_call {n : Nat} (hn : 0 < n) (b : Nat) (hb : b < 18446744073709551616) {Q : PV → Nat → List Nat → Prop} (hQ : Q (.tup [.int .u64 (mant b : Nat), .int .i64 (expo b)]) n []) : PCall Tryd.prog 36 [.int .u64 b] n Q := by
  have hp := bP_le b
  have hf := bF_lt b
  refine of36 hn ?_
  simp (disch := omega) [c36]
  refine CallK.of (by simp) (Split_call hn b hb ?_)
  unfold mant expo at hQ
  by_cases h : bP b = 0
  · simp only [h, if_true] at hQ
    simpa (disch := omega) [h] using hQ
  · simp only [h, if_false] at hQ
    obtain ⟨f, hff⟩ : ∃ f, f = bF b := ⟨_, rfl⟩
    obtain ⟨p, hpp⟩ : ∃ p, p = bP b := ⟨_, rfl⟩
    rw [← hff, ← hpp] at hQ
    rw [← hff, ← hpp]
    rw [← hpp] at h
    have hor : binPV Tryd.prog .or 22 (.int .u64 (f : Int)) (.int .u64 4503599627370496) = some (.int .u64 ((f + 4503599627370496 : Nat) : Int)) := by
      have := binPV_or_low (P := Tryd.prog) (t := 22) (a := f) (b := 4503599627370496) (k := 52) (c := f + 4503599627370496) (d := 1) (by omega) (by decide) (by omega) (by omega)
      exact this
    simp only [Int.natCast_add] at hQ hor
    simpa (disch := omega) [h, hor] using hQ
theorem dyOk_val (b : Nat) : dyOk (valZ b) (expo b) = true := by
  unfold dyOk
  by_cases h : valZ b = 0
  · simp [h]
  · have h1 := tz_sz h (sz_val b)
    have h2 := expo_le b
    unfold dyE
    rw [if_neg h]
    simp only [h, decide_false, Bool.false_or, Bool.and_eq_true, decide_eq_true_eq]
    omega
theorem Value_call {n : Nat} (hn : 0 < n) (b : Nat) (hb : b < 18446744073709551616) {Q : PV → Nat → List Nat → Prop} (h0 : finB b = false → Q (.tup [D false ⟨0, 0, 0⟩ [] 0, .int .i64 7]) n [])
    (hQ : finB b = true → ∀ (i : Sid) (n' : Nat), n ≤ n' → newSid n n' i → Q (.tup [D (decide (dyM (valZ b) < 0)) i (dig (dyM (valZ b)).natAbs) (dyE (valZ b) (expo b)), .int .i64 0]) n' []) : PCall Tryd.prog 19 [.int .u64 b] n Q := by
  refine of19 hn ?_
  simp (disch := omega) [c19]
  refine CallK.of (by simp) (Finite_call hn b hb ?_)
  cases hf : finB b
  · have := h0 hf
    simpa (disch := omega) [hf] using this
  · have hQ := hQ hf
    have hm := mant_lt b
    have he := expo_le b
    have ha := valZ_abs b
    have hs := valZ_neg b
    obtain ⟨z, hz⟩ : ∃ z, z = valZ b := ⟨_, rfl⟩
    obtain ⟨m, hmm⟩ : ∃ m, m = mant b := ⟨_, rfl⟩
    obtain ⟨e, hee⟩ : ∃ e, e = expo b := ⟨_, rfl⟩
    have hok := dyOk_val b
    have hzs := sz_val b
    rw [← hz, ← hee] at hok hQ
    rw [← hz] at ha hs hzs
    rw [← hmm] at ha hs hm
    rw [← hee] at he
    simp (disch := omega) [hf]
    refine CallK.of (by simp) (Parts_call hn b hb ?_)
    rw [← hmm, ← hee]
    simp (disch := omega) []
    refine CallK.of (by simp) (Of_call hn (m : Int) (by omega) (by omega) fun i1 n1 g1 d1 => ?_)
    have hm0 : ¬ (m : Int) < 0 := by omega
    simp (disch := omega) [g1, hm0]
    refine CallK.of (by simp) (Sign_call (by omega) b hb ?_)
    have hl := hzs.len
    rw [ha] at hl
    have fin : ∀ (ng : Bool), ng = decide (z < 0) → ∀ {Q' : PV → Nat → List Nat → Prop}, (∀ (i : Sid) (n' : Nat), n1 ≤ n' → newSid n1 n' i → Q' (.tup [D (decide (dyM z < 0)) i (dig (dyM z).natAbs) (dyE z e), .int .i64 0]) n' []) → PCall Tryd.prog 38 [W ng i1 (dig m), .int .i64 e] n1 Q' := by
      intro ng hng Q' hq
      have hr := rightW_Z (x := z) (by rw [ha]; omega)
      have hnum := numW_dig z
      rw [← hng, ha] at hr hnum
      refine Make_call (by omega) ng i1 (dig m) (by omega) (Lim.dig _) e (fun h => by rw [hr] at h; cases h) (fun _ h => by omega) (fun _ _ i' n' g d => ?_)
      rw [hnum, hok, if_pos rfl]
      exact hq i' n' g d
    cases hsg : bN b
    · rw [hsg] at hs
      simp (disch := omega) [g1]
      refine CallK.of (by simp) (fin false (by rw [hs]; rfl) fun i' n' g d => ?_)
      have := hQ i' n' (by omega) (newSid_le g1 d)
      simpa (disch := omega) [show n ≤ n' by omega] using this
    · rw [hsg] at hs
      by_cases h00 : m = 0
      · simp (disch := omega) [g1, h00]
        subst h00
        refine CallK.of (by simp) (fin false (by rw [hs]; rfl) fun i' n' g d => ?_)
        have := hQ i' n' (by omega) (newSid_le g1 d)
        simpa (disch := omega) [show n ≤ n' by omega] using this
      · simp (disch := omega) [g1, h00]
        refine CallK.of (by simp) (fin true (by rw [hs]; simp [h00]) fun i' n' g d => ?_)
        have := hQ i' n' (by omega) (newSid_le g1 d)
        simpa (disch := omega) [show n ≤ n' by omega] using this
theorem RefValue_call {n : Nat} (hn : 0 < n) (b : Nat) (hb : b < 18446744073709551616) {Q : PV → Nat → List Nat → Prop}
    (hQ : ∀ (i : Sid) (n' : Nat), n ≤ n' → Q (D (decide (dyM (valZ b) < 0)) i (dig (dyM (valZ b)).natAbs) (dyE (valZ b) (expo b))) n' []) : PCall Tryd.prog 21 [.int .u64 b] n Q := by
  have hm := mant_lt b
  have he := expo_le b
  have hp := bP_le b
  have hfr := bF_lt b
  have ha := valZ_abs b
  have hzs := sz_val b
  have hdef : valZ b = if bN b then -(mant b : Int) else mant b := rfl
  obtain ⟨z, hz⟩ : ∃ z, z = valZ b := ⟨_, rfl⟩
  obtain ⟨m, hmm⟩ : ∃ m, m = mant b := ⟨_, rfl⟩
  obtain ⟨e, hee⟩ : ∃ e, e = expo b := ⟨_, rfl⟩
  have hmd : m = if bP b = 0 then bF b else bF b + 4503599627370496 := hmm
  have hed : e = if bP b = 0 then -1074 else (bP b : Int) - 1075 := hee
  rw [← hz, ← hee] at hQ
  rw [← hz] at ha hdef hzs
  rw [← hmm] at ha hm hdef
  rw [← hee] at he
  have hwe : IntKind.i64.wrap e = e := wrap_i64_id e (by omega) (by omega)
  have hE : (if z = 0 then 0 else IntKind.i64.wrap (e + tz z.natAbs)) = dyE z e := by
    unfold dyE
    by_cases h : z = 0
    · rw [if_pos h, if_pos h]
    · have := tz_sz h hzs
      rw [if_neg h, if_neg h]; exact wrap_i64_id _ (by omega) (by omega)
  have hszm : ((m : Int)).natAbs = m := by simp
  have fin : ∀ (i1 : Sid) (n1 : Nat), n ≤ n1 → newSid n n1 i1 → ∀ {Q' : PV → Nat → List Nat → Prop}, (∀ (i : Sid) (n' : Nat), n1 ≤ n' → Q' (D (decide (dyM z < 0)) i (dig (dyM z).natAbs) (dyE z e)) n' []) → PCall Tryd.prog 42 [W (decide (z < 0)) i1 (dig z.natAbs), .int .i64 e] n1 Q' := by
    intro i1 n1 g1 d1 Q' hq
    refine RefOfD_call (by omega) z e i1 (newSid_lt d1 (by omega)) (hzs.mono (by omega)) hwe fun i' n' g => ?_
    rw [hE]; exact hq i' n' g
  have hlm : (dig m).length ≤ 2 := by have := hzs.len; rw [ha] at this; exact this
  have hnumm : numW false (dig m) = (m : Int) := by have := numW_dig (m : Int); simpa using this
  refine of21 hn ?_
  by_cases hp0 : bP b = 0
  · rw [if_pos hp0] at hmd hed
    subst hed
    simp (disch := omega) [c21]
    refine CallK.of (by simp) (RefFrac_call hn b hb ?_)
    rw [← hmd]
    simp (disch := omega) []
    refine CallK.of (by simp) (RefOf_call hn (m : Int) (by omega) (by omega) fun i1 n1 g1 d1 => ?_)
    have hm0 : decide ((m : Int) < 0) = false := by simp
    rw [hm0, hszm]
    simp (disch := omega) [g1]
    refine CallK.of (by simp) (RefPower_call (by omega) b hb ?_)
    simp (disch := omega) [g1, hp0]
    refine CallK.of (by simp) (RefNegB_call (by omega) b hb ?_)
    cases hsg : bN b
    · rw [hsg] at hdef
      have hzm : z = (m : Int) := by rw [hdef]; rfl
      simp (disch := omega) [g1]
      have h1 : decide (z < 0) = false := by rw [hzm]; simp
      have := fun {Q' : PV → Nat → List Nat → Prop} => fin i1 n1 (by omega) d1 (Q' := Q')
      rw [h1, ha] at this
      refine CallK.of (by simp) (this fun i9 n9 g9 => ?_)
      have := hQ i9 n9 (by omega)
      simpa (disch := omega) [show n ≤ n9 by omega] using this
    · rw [hsg] at hdef
      have hzm : z = -(m : Int) := by rw [hdef]; rfl
      simp (disch := omega) [g1]
      refine CallK.of (by simp) (Neg_call (by omega) false i1 (dig m) (by omega) (Lim.dig _) z (by rw [hnumm]; exact hzm) fun i8 d8 => ?_)
      simp (disch := omega) [g1]
      refine CallK.of (by simp) (fin i8 n1 (by omega) (by rcases d8 with rfl | rfl; exact .inl rfl; exact d1) fun i9 n9 g9 => ?_)
      have := hQ i9 n9 (by omega)
      simpa (disch := omega) [show n ≤ n9 by omega] using this
  · rw [if_neg hp0] at hmd hed
    simp (disch := omega) [c21]
    refine CallK.of (by simp) (RefFrac_call hn b hb ?_)
    simp (disch := omega) []
    refine CallK.of (by simp) (RefOf_call hn (bF b : Int) (by omega) (by omega) fun i1 n1 g1 d1 => ?_)
    simp (disch := omega) [g1]
    refine CallK.of (by simp) (RefPower_call (by omega) b hb ?_)
    have hpp : 0 < bP b := by omega
    simp (disch := omega) [g1, hpp]
    refine CallK.of (by simp) (RefFrac_call (by omega) b hb ?_)
    have hw1 : IntKind.u64.wrap ((bF b : Int) + 4503599627370496) = (m : Int) := by rw [hmd, wrap_u64_eq]; omega
    have hw2 : IntKind.i64.wrap (m : Int) = (m : Int) := wrap_i64_nat m (by omega)
    simp (disch := omega) [-wrap_u64_at, -wrap_i64_at, g1, hw1, hw2]
    refine CallK.of (by simp) (RefOf_call (by omega) (m : Int) (by omega) (by omega) fun i2 n2 g2 d2 => ?_)
    have hm0 : decide ((m : Int) < 0) = false := by simp
    rw [hm0, hszm]
    simp (disch := omega) [g1, g2]
    refine CallK.of (by simp) (RefPower_call (by omega) b hb ?_)
    have hw3 : IntKind.i64.wrap ((bP b : Int) - 1075) = e := by rw [hed]; exact wrap_i64_id _ (by omega) (by omega)
    simp (disch := omega) [-wrap_i64_at, g1, g2, hw3]
    refine CallK.of (by simp) (RefNegB_call (by omega) b hb ?_)
    cases hsg : bN b
    · rw [hsg] at hdef
      have hzm : z = (m : Int) := by rw [hdef]; rfl
      simp (disch := omega) [g1, g2]
      have h1 : decide (z < 0) = false := by rw [hzm]; simp
      have := fun {Q' : PV → Nat → List Nat → Prop} => fin i2 n2 (by omega) (newSid_le g1 d2) (Q' := Q')
      rw [h1, ha] at this
      refine CallK.of (by simp) (this fun i9 n9 g9 => ?_)
      have := hQ i9 n9 (by omega)
      simpa (disch := omega) [show n ≤ n9 by omega] using this
    · rw [hsg] at hdef
      have hzm : z = -(m : Int) := by rw [hdef]; rfl
      simp (disch := omega) [g1, g2]
      refine CallK.of (by simp) (Neg_call (by omega) false i2 (dig m) (by omega) (Lim.dig _) z (by rw [hnumm]; exact hzm) fun i8 d8 => ?_)
      simp (disch := omega) [g1, g2]
      refine CallK.of (by simp) (fin i8 n2 (by omega) (by rcases d8 with rfl | rfl; exact .inl rfl; exact (newSid_le g1 d2)) fun i9 n9 g9 => ?_)
      have := hQ i9 n9 (by omega)
      simpa (disch := omega) [show n ≤ n9 by omega] using this
end Go.Proofs.YtdaoblhmnafllaaDoor

/-! SfC: Packing a number, by value. -/
set_option linter.unusedVariables false
set_option linter.unusedSimpArgs false
namespace Go.Proofs.YtdaoblhmnafllaaDoor
open Go.Proofs

def packR (q r : Nat) : Nat := min 9218868437227405312 (r * 4503599627370496 + q)
def packG : Nat → Nat → Nat
  | 0, q => packR q 0
  | r + 1, q => if q < 4503599627370496 then packG r (2 * q) else packR q (r + 1)
def sB (neg : Bool) (b : Nat) : Nat := if neg then mB b else b
theorem packR_le (q r : Nat) : packR q r ≤ 9218868437227405312 := Nat.min_le_left _ _
theorem packG_le : ∀ (r q : Nat), packG r q ≤ 9218868437227405312
  | 0, q => packR_le _ _
  | r + 1, q => by
    rw [packG]; split
    · exact packG_le r _
    · exact packR_le _ _
theorem packG_zero : ∀ (r : Nat), packG r 0 = 0
  | 0 => by decide
  | r + 1 => by rw [packG, if_pos (by omega)]; exact packG_zero r
theorem packG_big {r q : Nat} (h : 4503599627370496 ≤ q ∨ r = 0) : packG r q = packR q r := by
  cases r with
  | zero => rfl
  | succ r => rw [packG, if_neg (by omega)]
@[simp] theorem sB_false (b : Nat) : sB false b = b := rfl
theorem sB_lt {neg : Bool} {b : Nat} (h : b ≤ 9218868437227405312) : sB neg b < 18446744073709551616 := by
  unfold sB; split
  · exact mB_lt (by omega)
  · omega
theorem shl_one {P : Program} {t : TypeId} {a : Nat} {k' : IntKind} (h : a < 9223372036854775808) : binPV P .shl t (.int .u64 (a : Int)) (.int k' 1) = some (.int .u64 ((2 * a : Nat) : Int)) := by
  rw [binPV_shl, if_neg (by omega)]
  rw [show (a : Int) * 2 ^ (min (1 : Int).toNat IntKind.u64.bits) = ((2 * a : Nat) : Int) by
    rw [show min (1 : Int).toNat IntKind.u64.bits = 1 by decide]; omega, wrap_u64_nat _ (by omega)]
theorem shl_52 {P : Program} {t : TypeId} {a : Nat} {k' : IntKind} (h : a < 2048) : binPV P .shl t (.int .u64 (a : Int)) (.int k' 52) = some (.int .u64 ((4503599627370496 * a : Nat) : Int)) := by
  rw [binPV_shl, if_neg (by omega)]
  rw [show (a : Int) * 2 ^ (min (52 : Int).toNat IntKind.u64.bits) = ((4503599627370496 * a : Nat) : Int) by
    rw [show min (52 : Int).toNat IntKind.u64.bits = 52 by decide]; omega, wrap_u64_nat _ (by omega)]
theorem shr_one {P : Program} {t : TypeId} {a : Nat} {k' : IntKind} : binPV P .shr t (.int .u64 (a : Int)) (.int k' 1) = some (.int .u64 ((a / 2 : Nat) : Int)) := by
  have := shr_nat_lit (P := P) (t := t) (k := .u64) (k' := k') (a := a) (n := 1) (by decide)
  exact this
theorem Pack_end {n : Nat} (hn : 0 < n) (neg : Bool) (b : Nat) (hb : b ≤ 9218868437227405312) {Q : PV → Nat → List Nat → Prop} (hQ : Q (.int .u64 (sB neg b : Nat)) n []) :
    ∀ {Q' : PV → Nat → List Nat → Prop}, neg = true → Q' (.int .u64 (sB neg b : Nat)) n [] → PCall Tryd.prog 16 [.int .u64 b] n Q' := by
  intro Q' h hq
  subst h
  exact Minus_call hn b (by omega) hq
theorem Pack_call {n : Nat} (hn : 0 < n) (neg : Bool) : ∀ (k q r : Nat) {Q : PV → Nat → List Nat → Prop} (_ : q = 0 ∨ 4503599627370496 ≤ q * 2 ^ k) (_ : q < 9007199254740992) (_ : r < 1099511627776) (_ : Q (.int .u64 (sB neg (packG r q) : Nat)) n []), PCall Tryd.prog 69 [.bool neg, .int .u64 q, .int .i64 ((r : Int) - 1074)] n Q
  | k, q, r, Q, hk, hq, hr, hQ => by
    refine of69 hn ?_
    have hle := packG_le r q
    have fin : ∀ {Q' : PV → Nat → List Nat → Prop}, neg = true → Q' (.int .u64 (sB neg (packG r q) : Nat)) n [] → PCall Tryd.prog 16 [.int .u64 (packG r q)] n Q' := by
      intro Q' h hq
      subst h
      exact Minus_call hn _ (by omega) hq
    have hA : ¬ 9007199254740992 ≤ q := by omega
    by_cases h0 : q = 0
    · subst h0
      rw [packG_zero] at fin hQ
      cases neg
      · simpa (disch := omega) [c69] using hQ
      · simp (disch := omega) [c69]
        refine CallK.of (by simp) (fin rfl ?_)
        simpa (disch := omega) [] using hQ
    · by_cases h1 : 4503599627370496 ≤ q
      · have hB : ¬ q < 4503599627370496 := by omega
        have hg : packG r q = packR q r := packG_big (.inl h1)
        by_cases h2 : 2046 ≤ r
        · have hC : (2047 : Int) ≤ (r : Int) - 1074 + 1075 := by omega
          have hi : packG r q = 9218868437227405312 := by rw [hg, packR]; omega
          rw [hi] at fin hQ
          cases neg
          · simpa (disch := omega) [c69, h0, hA, hB, hC] using hQ
          · simp (disch := omega) [c69, h0, hA, hB, hC]
            refine CallK.of (by simp) (fin rfl ?_)
            simpa (disch := omega) [] using hQ
        · have hC : ¬ (2047 : Int) ≤ (r : Int) - 1074 + 1075 := by omega
          have hi : packG r q = 4503599627370496 * (r + 1) + (q - 4503599627370496) := by rw [hg, packR]; omega
          have ha := and_u64_lit (P := Tryd.prog) (t := 22) (a := q) (n := 4503599627370495) (by omega) (by decide)
          rw [show q &&& 4503599627370495 = q - 4503599627370496 by
            have : q &&& 4503599627370495 = q % 4503599627370496 := and_mask _ 52
            omega] at ha
          obtain ⟨p, hp⟩ : ∃ p, p = r + 1 := ⟨_, rfl⟩
          obtain ⟨x, hx⟩ : ∃ x, x = 4503599627370496 * p := ⟨_, rfl⟩
          obtain ⟨y, hy⟩ : ∃ y, y = q - 4503599627370496 := ⟨_, rfl⟩
          have hs := shl_52 (P := Tryd.prog) (t := 23) (a := p) (k' := .u64) (by omega)
          rw [← hx] at hs
          rw [← hy] at ha
          have ho := binPV_or_high (P := Tryd.prog) (t := 23) (a := y) (b := x) (k := 52) (c := packG r q) (d := p) (by omega) (by omega) (by omega) (by omega)
          have hw : IntKind.u64.wrap ((r : Int) - 1074 + 1075) = (p : Int) := by rw [wrap_u64_at _ (by omega)]; omega
          cases neg
          · simpa (disch := omega) [-binPV_and, -binPV_or, -binPV_shl, -wrap_u64_at, c69, h0, hA, hB, hC, h1, ha, hs, ho, hw] using hQ
          · simp (disch := omega) [-binPV_and, -binPV_or, -binPV_shl, -wrap_u64_at, c69, h0, hA, hB, hC, h1, ha, hs, ho, hw]
            refine CallK.of (by simp) (fin rfl ?_)
            simpa (disch := omega) [] using hQ
      · have hB : q < 4503599627370496 := by omega
        by_cases h2 : r = 0
        · subst h2
          have hi : packG 0 q = q := by rw [packG, packR]; omega
          rw [hi] at fin hQ
          cases neg
          · simpa (disch := omega) [c69, h0, hA, hB] using hQ
          · simp (disch := omega) [c69, h0, hA, hB]
            refine CallK.of (by simp) (fin rfl ?_)
            simpa (disch := omega) [] using hQ
        · obtain ⟨r', rfl⟩ : ∃ r', r = r' + 1 := ⟨r - 1, by omega⟩
          rw [packG, if_pos (by omega)] at hQ
          have hC : (-1074 : Int) < ((r' + 1 : Nat) : Int) - 1074 := by omega
          cases k with
          | zero => omega
          | succ k =>
            have hs := shl_one (P := Tryd.prog) (t := 22) (a := q) (k' := .u64) (by omega)
            obtain ⟨q2, hq2⟩ : ∃ q2, q2 = 2 * q := ⟨_, rfl⟩
            have ih : ∀ {Q' : PV → Nat → List Nat → Prop}, Q' (.int .u64 (sB neg (packG r' q2) : Nat)) n [] → PCall Tryd.prog 69 [.bool neg, .int .u64 q2, .int .i64 ((r' : Int) - 1074)] n Q' := by
              intro Q' h
              exact Pack_call hn neg k q2 r' (.inr (by rw [Nat.pow_succ] at hk; rw [hq2, Nat.mul_comm 2 q, Nat.mul_assoc, Nat.mul_comm 2]; omega)) (by omega) (by omega) h
            obtain ⟨e, he⟩ : ∃ e : Int, e = ((r' + 1 : Nat) : Int) - 1074 := ⟨_, rfl⟩
            have hw : IntKind.i64.wrap (e - 1) = (r' : Int) - 1074 := wrap_i64_is (by omega) (by omega)
            rw [← he] at hC
            rw [← hq2] at hs hQ
            rw [← he]
            simp (disch := omega) [-binPV_shl, -wrap_i64_at, c69, h0, hA, hB, hC, hs, hw]
            refine CallK.of (by simp) (ih ?_)
            simpa (disch := omega) [] using hQ
end Go.Proofs.YtdaoblhmnafllaaDoor

/-! SfD: Rounding, plain laws. -/
set_option linter.unusedVariables false
set_option linter.unusedSimpArgs false
namespace Go.Proofs.YtdaoblhmnafllaaDoor
open Go.Proofs

/-- M over 2 to the s, to the nearest one, of two the even one. -/
def rq (M s : Nat) : Nat := M / 2 ^ s + (if 2 ^ s < 2 * (M % 2 ^ s) ∨ (2 ^ s = 2 * (M % 2 ^ s) ∧ M / 2 ^ s % 2 = 1) then 1 else 0)
def rnd (M : Nat) (t : Int) : Nat := if t ≤ 0 then M * 2 ^ (-t).toNat else rq M t.toNat
def pexp (L : Nat) (E : Int) : Int := if (L : Int) + E - 53 ≤ -1074 then -1074 else L + E - 53
def spB (M : Nat) (E : Int) (L : Nat) : Nat := packR (rnd M (pexp L E - E)) (pexp L E + 1074).toNat
def spX (M : Nat) (E : Int) (L : Nat) : Bool := decide (pexp L E ≤ E ∨ M % 2 ^ (pexp L E - E).toNat = 0)
def bitsL (M L : Nat) : Prop := M < 2 ^ L ∧ 2 ^ L ≤ 2 * M
def flg (b : Nat) (x : Bool) : Int := if b = 9218868437227405312 then 5 else if x = true then 0 else if 4503599627370496 ≤ b then 1 else 3
theorem spB_le (M : Nat) (E : Int) (L : Nat) : spB M E L ≤ 9218868437227405312 := packR_le _ _
theorem pow_lt_of {a b : Nat} (h : 2 ^ a < 2 ^ b) : a < b := (Nat.pow_lt_pow_iff_right (by omega)).1 h
theorem bitsL_le {M L k : Nat} (h : bitsL M L) (hk : M < 2 ^ k) : L ≤ k := by
  have : 2 ^ L < 2 ^ (k + 1) := by rw [Nat.pow_succ]; have := h.2; omega
  have := pow_lt_of this; omega
theorem bitsL_ge {M L k : Nat} (h : bitsL M L) (hk : 2 ^ k ≤ M) : k < L := pow_lt_of (Nat.lt_of_le_of_lt hk h.1)
theorem mod_two_pow_add (M s d : Nat) : M % 2 ^ (d + s) = M % 2 ^ s + 2 ^ s * (M / 2 ^ s % 2 ^ d) := by
  rw [Nat.add_comm d s, Nat.pow_add, Nat.mod_mul]
theorem round_iff {P H x r : Nat} (hr : r < P) : (2 * (P * H) < 2 * (r + P * x) ↔ (H < x ∨ (x = H ∧ 0 < r))) ∧ (2 * (P * H) = 2 * (r + P * x) ↔ (x = H ∧ r = 0)) := by
  rcases Nat.lt_trichotomy x H with h | h | h
  · have : P * (x + 1) ≤ P * H := Nat.mul_le_mul_left P h
    rw [Nat.mul_add] at this
    constructor <;> constructor <;> intro h <;> omega
  · subst h
    constructor <;> constructor <;> intro h <;> omega
  · have : P * (H + 1) ≤ P * x := Nat.mul_le_mul_left P h
    rw [Nat.mul_add] at this
    constructor <;> constructor <;> intro h <;> omega
theorem rq_sticky {u s r d M : Nat} (hM : M = u * 2 ^ s + r) (hr : r < 2 ^ s) (hd : 0 < d) :
    rq M (d + s) = u / 2 ^ d + (if 2 ^ (d - 1) < u % 2 ^ d ∨ (u % 2 ^ d = 2 ^ (d - 1) ∧ (0 < r ∨ u / 2 ^ d % 2 = 1)) then 1 else 0) := by
  have hP : 0 < 2 ^ s := Nat.pos_of_ne_zero (by simp)
  have h1 : M / 2 ^ s = u := by
    rw [hM, Nat.mul_comm, Nat.mul_add_div hP, Nat.div_eq_of_lt hr, Nat.add_zero]
  have h2 : M % 2 ^ s = r := by rw [hM, Nat.mul_comm, Nat.mul_add_mod, Nat.mod_eq_of_lt hr]
  have h3 : M / 2 ^ (d + s) = u / 2 ^ d := by rw [Nat.add_comm, Nat.pow_add, ← Nat.div_div_eq_div_mul, h1]
  have h4 : M % 2 ^ (d + s) = r + 2 ^ s * (u % 2 ^ d) := by rw [mod_two_pow_add, h1, h2]
  have h5 : 2 ^ (d + s) = 2 * (2 ^ s * 2 ^ (d - 1)) := by
    obtain ⟨d', rfl⟩ : ∃ d', d = d' + 1 := ⟨d - 1, by omega⟩
    rw [Nat.add_sub_cancel, Nat.pow_add, Nat.pow_succ, Nat.mul_comm (2 ^ s)]
    rw [Nat.mul_comm (2 ^ d') 2, Nat.mul_assoc]
  unfold rq
  rw [h3, h4, h5]
  congr 1
  obtain ⟨h6, h7⟩ := round_iff (P := 2 ^ s) (H := 2 ^ (d - 1)) (x := u % 2 ^ d) hr
  generalize 2 * (2 ^ s * 2 ^ (d - 1)) = A at *
  generalize 2 * (r + 2 ^ s * (u % 2 ^ d)) = B at *
  generalize 2 ^ (d - 1) = H at *
  generalize u % 2 ^ d = x at *
  generalize u / 2 ^ d % 2 = y at *
  by_cases a : H < x
  · rw [if_pos (.inl (h6.2 (.inl a))), if_pos (.inl a)]
  · by_cases b : x = H
    · by_cases c : 0 < r
      · rw [if_pos (.inl (h6.2 (.inr ⟨b, c⟩))), if_pos (.inr ⟨b, .inl c⟩)]
      · by_cases e : y = 1
        · rw [if_pos (.inr ⟨h7.2 ⟨b, by omega⟩, e⟩), if_pos (.inr ⟨b, .inr e⟩)]
        · rw [if_neg (fun h => h.elim (fun h => by have := h6.1 h; omega) (fun h => e h.2)), if_neg (by omega)]
    · rw [if_neg (fun h => h.elim (fun h => by have := h6.1 h; omega) (fun h => by have := h7.1 h.1; omega)), if_neg (by omega)]
theorem near_d {u s r d L M : Nat} {e : Int} (hM : M = u * 2 ^ s + r) (hr : r < 2 ^ s) (hL : bitsL M L) (hd : 0 < d) (h1 : u < 2 ^ (53 + d)) (h2 : -1074 ≤ e + d) (h3 : 2 ^ (52 + d) ≤ u ∨ e + d = -1074) :
    spB M (e - s) L = packG (e + d + 1074).toNat (u / 2 ^ d + (if 2 ^ (d - 1) < u % 2 ^ d ∨ (u % 2 ^ d = 2 ^ (d - 1) ∧ (0 < r ∨ u / 2 ^ d % 2 = 1)) then 1 else 0)) ∧ spX M (e - s) L = (decide (u % 2 ^ d = 0) && decide (r = 0)) := by
  have hP : 0 < 2 ^ s := Nat.pos_of_ne_zero (by simp)
  have hlt : M < 2 ^ (53 + d + s) := by
    rw [Nat.pow_add 2 (53 + d) s]
    have : (u + 1) * 2 ^ s ≤ 2 ^ (53 + d) * 2 ^ s := Nat.mul_le_mul_right _ h1
    rw [Nat.add_mul] at this; omega
  have hLle := bitsL_le hL hlt
  have hp : pexp L (e - s) = e + d := by
    unfold pexp
    rcases h3 with h3 | h3
    · have : 2 ^ (52 + d + s) ≤ M := by
        rw [Nat.pow_add 2 (52 + d) s]
        have : 2 ^ (52 + d) * 2 ^ s ≤ u * 2 ^ s := Nat.mul_le_mul_right _ h3
        omega
      have := bitsL_ge hL this
      split <;> omega
    · rw [if_pos (by omega)]; omega
  have ht : pexp L (e - s) - (e - s) = ((d + s : Nat) : Int) := by rw [hp]; omega
  constructor
  · unfold spB
    rw [ht, rnd, if_neg (by omega), Int.toNat_natCast, rq_sticky hM hr hd, hp, packG_big]
    rcases h3 with h3 | h3
    · left
      have : 4503599627370496 ≤ u / 2 ^ d := by
        rw [Nat.le_div_iff_mul_le (Nat.pos_of_ne_zero (by simp))]
        rw [Nat.pow_add] at h3; exact h3
      omega
    · right; omega
  · unfold spX
    rw [ht, Int.toNat_natCast, hp]
    have h4 : M % 2 ^ (d + s) = r + 2 ^ s * (u % 2 ^ d) := by
      rw [mod_two_pow_add, hM, Nat.mul_comm u, Nat.mul_add_div hP, Nat.div_eq_of_lt hr, Nat.add_zero, Nat.mul_add_mod, Nat.mod_eq_of_lt hr]
    rw [h4, Bool.eq_iff_iff]
    simp only [decide_eq_true_eq, Bool.and_eq_true]
    constructor
    · rintro (h | h)
      · omega
      · have : 2 ^ s * (u % 2 ^ d) = 0 := by omega
        rcases Nat.mul_eq_zero.1 this with h5 | h5 <;> omega
    · rintro ⟨h5, h6⟩
      right; rw [h5, h6]; simp
theorem packG_norm : ∀ (r q L : Nat), bitsL q L → L ≤ 53 → packG r q = packR (q * 2 ^ (min r (53 - L))) (r - min r (53 - L))
  | 0, q, L, h, hL => by simp [packG]
  | r + 1, q, L, h, hL => by
    rw [packG]
    by_cases hq : q < 4503599627370496
    · have : L ≤ 52 := bitsL_le h (by omega)
      rw [if_pos hq, packG_norm r (2 * q) (L + 1) ⟨by rw [Nat.pow_succ]; have := h.1; omega, by rw [Nat.pow_succ]; have := h.2; omega⟩ (by omega)]
      have e : min (r + 1) (53 - L) = min r (53 - (L + 1)) + 1 := by omega
      rw [e, Nat.pow_succ]
      congr 1
      · rw [Nat.mul_comm 2 q, Nat.mul_assoc, Nat.mul_comm 2]
      · omega
    · have : 52 < L := bitsL_ge h (by omega)
      have e : min (r + 1) (53 - L) = 0 := by omega
      rw [if_neg hq, e]; simp
theorem near_0 {M L : Nat} {e : Int} (hL : bitsL M L) (h1 : M < 9007199254740992) (h2 : -1074 ≤ e) : spB M e L = packG (e + 1074).toNat M ∧ spX M e L = true := by
  have h53 : L ≤ 53 := bitsL_le hL (by omega)
  have hp : pexp L e = e - (min (e + 1074).toNat (53 - L) : Nat) := by unfold pexp; split <;> omega
  constructor
  · rw [packG_norm _ _ _ hL h53]
    unfold spB rnd
    rw [if_pos (by omega), hp]
    congr 2
    · congr 1; omega
    · omega
  · unfold spX
    simp only [decide_eq_true_eq]
    left; omega
theorem near_63 {u s r L M : Nat} {e : Int} (hM : M = u * 2 ^ s + r) (hr : r < 2 ^ s) (hL : bitsL M L) (h1 : u < 4611686018427387904) (h2 : e + 62 < -1074) : spB M (e - s) L = 0 ∧ spX M (e - s) L = false := by
  have hlt : M < 2 ^ (62 + s) := by
    rw [Nat.pow_add 2 62 s]
    have : (u + 1) * 2 ^ s ≤ 2 ^ 62 * 2 ^ s := Nat.mul_le_mul_right _ (by omega)
    rw [Nat.add_mul] at this; omega
  have hLle := bitsL_le hL hlt
  have hM0 : 0 < M := by have := hL.2; have : 0 < 2 ^ L := Nat.pos_of_ne_zero (by simp); omega
  have hp : pexp L (e - s) = -1074 := by unfold pexp; rw [if_pos (by omega)]
  obtain ⟨t, ht⟩ : ∃ t : Nat, pexp L (e - s) - (e - s) = t := ⟨(pexp L (e - s) - (e - s)).toNat, by omega⟩
  have hT : 2 ^ (63 + s) ≤ 2 ^ t := Nat.pow_le_pow_right (by omega) (by omega)
  have h63 : 2 ^ (63 + s) = 2 * 2 ^ (62 + s) := by rw [show 63 + s = 62 + s + 1 by omega, Nat.pow_succ, Nat.mul_comm]
  have hm : M % 2 ^ t = M := Nat.mod_eq_of_lt (by omega)
  have hdv : M / 2 ^ t = 0 := Nat.div_eq_of_lt (by omega)
  constructor
  · unfold spB
    rw [ht, rnd, if_neg (by omega), Int.toNat_natCast, hp, rq, hm, hdv, if_neg (by omega)]
    decide
  · unfold spX
    rw [ht, Int.toNat_natCast, hp, hm]
    simp only [decide_eq_false_iff_not]
    omega
theorem sB_fields (neg : Bool) {b : Nat} (h : b ≤ 9218868437227405312) : bP (sB neg b) = b / 4503599627370496 ∧ bF (sB neg b) = b % 4503599627370496 ∧ bN (sB neg b) = neg := by
  cases neg
  · rw [sB_false]; unfold bP bF bN; simp; omega
  · have : sB true b = b + 9223372036854775808 := by
      show mB b = _
      unfold mB bN; rw [if_neg (by simp; omega)]
    rw [this]; unfold bP bF bN; simp; omega
theorem kindB_sB (neg : Bool) {b : Nat} (h : b ≤ 9218868437227405312) : kindB (sB neg b) = if b = 9218868437227405312 then 3 else if 4503599627370496 ≤ b then 2 else if 0 < b then 1 else 0 := by
  obtain ⟨h1, h2, h3⟩ := sB_fields neg h
  unfold kindB
  rw [h1, h2]
  by_cases a : b = 9218868437227405312
  · rw [if_pos (by omega), if_pos (by omega), if_pos a]
  · rw [if_neg (by omega), if_neg a]
    by_cases c : 4503599627370496 ≤ b
    · rw [if_pos (by omega), if_pos c]
    · rw [if_neg (by omega), if_neg c, show b % 4503599627370496 = b by omega]
theorem clear_top {P : Program} {t : TypeId} (neg : Bool) {b : Nat} (h : b ≤ 9218868437227405312) : binPV P .andNot t (.int .u64 (sB neg b : Nat)) (.int .u64 9223372036854775808) = some (.int .u64 (b : Nat)) := by
  have hl := sB_lt (neg := neg) h
  rw [binPV_andNot, bits_u64, ofInt_nat, show (~~~(BitVec.ofInt 64 9223372036854775808)) = BitVec.ofNat 64 9223372036854775807 by decide, BitVec.toNat_and, BitVec.toNat_ofNat, BitVec.toNat_ofNat, Nat.mod_eq_of_lt (show sB neg b < 2 ^ 64 by omega), show (9223372036854775807 : Nat) % 2 ^ 64 = 2 ^ 63 - 1 by decide, and_mask]
  have : sB neg b % 2 ^ 63 = b := by
    cases neg
    · rw [sB_false]; omega
    · have : sB true b = b + 9223372036854775808 := by
        show mB b = _
        unfold mB bN; rw [if_neg (by simp; omega)]
      omega
  rw [this, wrap_u64_nat _ (by omega)]
end Go.Proofs.YtdaoblhmnafllaaDoor

/-! SfE: The nearest number, by value. -/
set_option linter.unusedVariables false
set_option linter.unusedSimpArgs false
set_option maxHeartbeats 2000000
set_option maxRecDepth 20000
namespace Go.Proofs.YtdaoblhmnafllaaDoor
open Go.Proofs

theorem shl_one_u64 {P : Program} {t : TypeId} {k' : IntKind} {b : Nat} (h : b < 64) : binPV P .shl t (.int .u64 1) (.int k' (b : Int)) = some (.int .u64 ((2 ^ b : Nat) : Int)) := by
  rw [binPV_shl, if_neg (by omega), Int.toNat_natCast, Nat.min_eq_left (by rw [bits_u64]; omega)]
  congr 2
  have h2 : 2 ^ b < 2 ^ 64 := Nat.pow_lt_pow_right (by omega) h
  have : (1 : Int) * 2 ^ b = ((2 ^ b : Nat) : Int) := by simp
  rw [this, wrap_u64_nat _ (by omega)]
theorem or14 : binPV Tryd.prog .or 39 (.int .u8 1) (.int .u8 4) = some (.int .u8 5) := by rw [binPV_or]; rfl
theorem or12 : binPV Tryd.prog .or 39 (.int .u8 1) (.int .u8 2) = some (.int .u8 3) := by rw [binPV_or]; rfl
theorem Pack53_call {n : Nat} (hn : 0 < n) (neg : Bool) (r : Nat) {Q : PV → Nat → List Nat → Prop} (hr : r < 1099511627775) (hQ : Q (.int .u64 (sB neg (packG r 9007199254740992) : Nat)) n []) : PCall Tryd.prog 69 [.bool neg, .int .u64 9007199254740992, .int .i64 ((r : Int) - 1074)] n Q := by
  refine of69 hn ?_
  have hg : packG r 9007199254740992 = packG (r + 1) 4503599627370496 := by rw [packG_big (.inl (by decide)), packG_big (.inl (by decide))]; unfold packR; omega
  rw [hg] at hQ
  have hw : IntKind.i64.wrap ((r : Int) - 1074 + 1) = ((r + 1 : Nat) : Int) - 1074 := wrap_i64_is (by omega) (by omega)
  obtain ⟨e, he⟩ : ∃ e : Int, e = ((r + 1 : Nat) : Int) - 1074 := ⟨_, rfl⟩
  have hc : PCall Tryd.prog 69 [.bool neg, .int .u64 4503599627370496, .int .i64 e] n (fun v n' D => v = .int .u64 (sB neg (packG (r + 1) 4503599627370496) : Nat) ∧ n' = n ∧ D = []) := by
    rw [he]
    exact Pack_call hn neg 0 4503599627370496 (r + 1) (.inr (by omega)) (by omega) (by omega) ⟨rfl, rfl, rfl⟩
  rw [← he] at hw
  simp (disch := omega) [-wrap_i64_at, c69, hw]
  refine CallK.of (by simp) (hc.mono fun v n' D _ hv => ?_)
  obtain ⟨rfl, rfl, rfl⟩ := hv
  simpa (disch := omega) [] using hQ
theorem Pack_le {n : Nat} (hn : 0 < n) (neg : Bool) (q r : Nat) {Q : PV → Nat → List Nat → Prop} (hq : q ≤ 9007199254740992) (hr : r < 1099511627775) (hQ : Q (.int .u64 (sB neg (packG r q) : Nat)) n []) : PCall Tryd.prog 69 [.bool neg, .int .u64 q, .int .i64 ((r : Int) - 1074)] n Q := by
  rcases Nat.lt_or_ge q 9007199254740992 with hlt | hge
  · refine Pack_call hn neg 53 q r ?_ hlt (by omega) hQ
    rcases Nat.eq_zero_or_pos q with h | h
    · exact .inl h
    · right; omega
  · obtain rfl : q = 9007199254740992 := by omega
    exact Pack53_call hn neg r hr hQ
theorem gtrT {P : Program} {t : TypeId} {k : IntKind} {a b : Int} (h : b < a) : binPV P .gtr t (.int k a) (.int k b) = some (.bool true) := by rw [binPV_gtr]; simp; omega
theorem gtrF {P : Program} {t : TypeId} {k : IntKind} {a b : Int} (h : ¬ b < a) : binPV P .gtr t (.int k a) (.int k b) = some (.bool false) := by rw [binPV_gtr]; simp; omega
theorem eqlT {P : Program} {t : TypeId} {k : IntKind} {a b : Int} (h : a = b) : binPV P .eql t (.int k a) (.int k b) = some (.bool true) := by rw [binPV_eql]; simp; omega
theorem eqlF {P : Program} {t : TypeId} {k : IntKind} {a b : Int} (h : ¬ a = b) : binPV P .eql t (.int k a) (.int k b) = some (.bool false) := by rw [binPV_eql]; simp; omega
def NearAt (neg : Bool) (u : Nat) (e : Int) (more : Bool) (n d : Nat) (s : St) : Prop := At s 111 [] n [(0, .bool neg), (1, .int .u64 u), (2, .int .i64 e), (3, .bool more), (8, .int .u64 0), (9, .int .u8 0), (10, .int .i64 d)]
def rup (u d : Nat) (more : Bool) : Nat := u / 2 ^ d + (if 2 ^ (d - 1) < u % 2 ^ d ∨ (u % 2 ^ d = 2 ^ (d - 1) ∧ (more = true ∨ u / 2 ^ d % 2 = 1)) then 1 else 0)
theorem Near_rest {n : Nat} (hn : 0 < n) (neg : Bool) (u d : Nat) (e : Int) (more : Bool) (hu : u < 18446744073709551616) (hd : d < 64) (he : -1000000 ≤ e ∧ e ≤ 1000000) (h1 : -1074 ≤ e + d) (h2 : u / 2 ^ d < 9007199254740992) {s : St} (hs : NearAt neg u e more n d s) {Q : PV → Nat → List Nat → Prop}
    (hQ : Q (.tup [.int .u64 (sB neg (packG (e + d + 1074).toNat (rup u d more)) : Nat), .int .u8 (flg (packG (e + d + 1074).toNat (rup u d more)) (decide (u % 2 ^ d = 0) && !more))]) n []) : GO Tryd.prog c49R0 (fin Tryd.prog [.tmp 8, .tmp 9] n Q) s := by
  obtain ⟨e1, e2, e3, e4, e5⟩ := hs
  simp at e5
  obtain ⟨e5, e6, e7, e8, e9, e10, e11⟩ := e5
  obtain ⟨T, hT⟩ : ∃ T, T = 2 ^ d := ⟨_, rfl⟩
  have hTp : 0 < T := by rw [hT]; exact Nat.pos_of_ne_zero (by simp)
  have hT63 : T ≤ 9223372036854775808 := by rw [hT]; exact (Nat.pow_le_pow_right (by omega) (show d ≤ 63 by omega) : 2 ^ d ≤ 2 ^ 63)
  have hTH : 0 < d → T = 2 * 2 ^ (d - 1) := by
    intro h
    rw [hT]; obtain ⟨d', rfl⟩ : ∃ d', d = d' + 1 := ⟨d - 1, by omega⟩
    rw [Nat.add_sub_cancel, Nat.pow_succ, Nat.mul_comm]
  have hHs := fun (h : 0 < d) => shl_one_u64 (P := Tryd.prog) (t := 22) (k' := .i64) (b := d - 1) (by omega)
  have f1 := shr_nat (P := Tryd.prog) (t := 22) (k := .u64) (k' := .i64) (a := u) (b := d) (by rw [bits_u64]; omega)
  have f2 := shl_one_u64 (P := Tryd.prog) (t := 22) (k' := .i64) (b := d) hd
  obtain ⟨T1, hT1⟩ : ∃ T1, T1 = T - 1 := ⟨_, rfl⟩
  have f4 : binPV Tryd.prog .and 22 (.int .u64 (u : Int)) (.int .u64 (T1 : Int)) = some (.int .u64 ((u % 2 ^ d : Nat) : Int)) := by
    rw [and_u64 hu (by omega), hT1, hT, and_mask]
  unfold rup at hQ
  rw [← hT] at f1 f2 f4 h2 hQ
  obtain ⟨q, hq⟩ : ∃ q, q = u / T := ⟨_, rfl⟩
  obtain ⟨x, hx⟩ : ∃ x, x = u % T := ⟨_, rfl⟩
  have hxT : x < T := by rw [hx]; exact Nat.mod_lt _ hTp
  have hx64 : x < 18446744073709551616 := by omega
  rw [← hq] at f1 h2 hQ
  rw [← hx] at f4 hQ
  obtain ⟨H, hH⟩ : ∃ H, H = 2 ^ (d - 1) := ⟨_, rfl⟩
  rw [← hH] at hHs hTH hQ
  have f3 : binPV Tryd.prog .sub 22 (.int .u64 (T : Int)) (.int .u64 1) = some (.int .u64 (T1 : Int)) := by
    rw [binPV_sub]; congr 2; rw [wrap_u64_at _ (by omega)]; omega
  have f5 : binPV Tryd.prog .and 22 (.int .u64 (q : Int)) (.int .u64 1) = some (.int .u64 ((q % 2 : Nat) : Int)) := by
    have := and_u64_lit (P := Tryd.prog) (t := 22) (a := q) (n := 1) (by omega) (by decide)
    rw [Nat.and_one_is_mod] at this
    exact this
  obtain ⟨o, ho⟩ : ∃ o, o = q % 2 := ⟨_, rfl⟩
  rw [← ho] at f5 hQ
  obtain ⟨r, hr⟩ : ∃ r, r = (e + d + 1074).toNat := ⟨_, rfl⟩
  have hre : e + d = (r : Int) - 1074 := by omega
  have hr2 : r < 1099511627775 := by omega
  have hw1 : IntKind.i64.wrap (e + d) = (r : Int) - 1074 := wrap_i64_is (by omega) (by omega)
  have hlo : ¬ (r : Int) - 1074 < -1074 := by omega
  have hle : -1074 ≤ (r : Int) - 1074 := by omega
  have hmax : maxV (.int .i64 ((r : Int) - 1074)) (.int .i64 (-1074)) = some (.int .i64 ((r : Int) - 1074)) := by simp [maxV]; omega
  rw [← hr] at hQ
  clear hr
  -- the number packed, its flags
  have key : ∀ (q' : Nat), q' = q + (if H < x ∨ (x = H ∧ (more = true ∨ o = 1)) then 1 else 0) → ∀ {Q' : PV → Nat → List Nat → Prop},
      (∀ b : Nat, b = packG r q' → b ≤ 9218868437227405312 → Q (.tup [.int .u64 (sB neg b : Nat), .int .u8 (flg b (decide (x = 0) && !more))]) n [] → Q' (.int .u64 (sB neg b : Nat)) n []) → PCall Tryd.prog 69 [.bool neg, .int .u64 q', .int .i64 ((r : Int) - 1074)] n Q' := by
    intro q' hq' Q' h
    have hq53 : q' ≤ 9007199254740992 := by rw [hq']; split <;> omega
    rw [← hq'] at hQ
    exact Pack_le hn neg q' r hq53 hr2 (h _ rfl (packG_le _ _) hQ)
  have hqs : IntKind.u64.wrap ((q : Int) + 1) = ((q + 1 : Nat) : Int) := by rw [wrap_u64_at _ (by omega)]; omega
  obtain ⟨qp, hqp⟩ : ∃ qp, qp = q + 1 := ⟨_, rfl⟩
  rw [← hqp] at hqs
  rcases Nat.eq_zero_or_pos d with h0 | h0
  · have hd0 : ¬ 0 < d := by omega
    have hT0 : T = 1 := by rw [hT, h0]
    have hx0 : x = 0 := by omega
    have hH0 : H = 1 := by rw [hH, h0]
    cases hm : more
    · rw [hm] at hQ key e8
      have hk := @key (q) (by rw [if_neg (fun h => by rcases h with h | ⟨h, _⟩ <;> omega), Nat.add_zero])
      have g1 : binPV Tryd.prog .gtr 3 (.int .i64 (d : Int)) (.int .i64 0) = some (.bool false) := gtrF (by omega)
      have g2 : binPV Tryd.prog .eql 22 (.int .u64 (x : Int)) (.int .u64 0) = some (.bool true) := eqlT (by omega)
      simp (disch := omega) [-binPV_gtr, -binPV_eql, -binPV_shl, -binPV_shr, -binPV_and, -binPV_sub, -wrap_i64_at, -binPV_andNot, -binPV_or, c49R0, e1, e2, e3, e4, e5, e6, e7, e8, e9, e10, e11, f1, f2, f3, f4, f5, hw1, hlo, hmax, hqs, g1, g2]
      refine CallK.of (by simp) (hk fun b hb hbl hQb => ?_)
      have hex : (decide (x = 0) && !false) = true := by simp [hx0]
      rw [hex] at hQb
      have hc := clear_top (P := Tryd.prog) (t := 23) neg hbl
      have hkk := kindB_sB neg hbl
      have hsl := sB_lt (neg := neg) hbl
      by_cases hi : b = 9218868437227405312
      · rw [hi, flg, if_pos rfl] at hQb
        rw [if_pos hi] at hkk
        rw [hi] at hc hsl hkk
        rw [hi]
        simp (disch := omega) [-binPV_andNot, -binPV_or, e1, e2, e3, e4, e5, e6, e7, e8, e9, e10, e11, hc, or14, or12]
        refine CallK.of (by simp) (Kind_call hn _ hsl ?_)
        rw [hkk]
        simpa (disch := omega) [-binPV_or, e1, e2, e3, e4, e5, e6, e7, e8, e9, e10, e11, or14, or12] using hQb
      · rw [flg, if_neg hi, if_pos rfl] at hQb
        simpa (disch := omega) [-binPV_andNot, -binPV_or, e1, e2, e3, e4, e5, e6, e7, e8, e9, e10, e11, hc, hi, or14, or12] using hQb
    · rw [hm] at hQ key e8
      have hk := @key (q) (by rw [if_neg (fun h => by rcases h with h | ⟨h, _⟩ <;> omega), Nat.add_zero])
      have g1 : binPV Tryd.prog .gtr 3 (.int .i64 (d : Int)) (.int .i64 0) = some (.bool false) := gtrF (by omega)
      have g2 : binPV Tryd.prog .eql 22 (.int .u64 (x : Int)) (.int .u64 0) = some (.bool true) := eqlT (by omega)
      simp (disch := omega) [-binPV_gtr, -binPV_eql, -binPV_shl, -binPV_shr, -binPV_and, -binPV_sub, -wrap_i64_at, -binPV_andNot, -binPV_or, c49R0, e1, e2, e3, e4, e5, e6, e7, e8, e9, e10, e11, f1, f2, f3, f4, f5, hw1, hlo, hmax, hqs, g1, g2]
      refine CallK.of (by simp) (hk fun b hb hbl hQb => ?_)
      have hex : (decide (x = 0) && !true) = false := by simp [hx0]
      rw [hex] at hQb
      have hc := clear_top (P := Tryd.prog) (t := 23) neg hbl
      have hkk := kindB_sB neg hbl
      have hsl := sB_lt (neg := neg) hbl
      by_cases hi : b = 9218868437227405312
      · rw [hi, flg, if_pos rfl] at hQb
        rw [if_pos hi] at hkk
        rw [hi] at hc hsl hkk
        rw [hi]
        simp (disch := omega) [-binPV_andNot, -binPV_or, e1, e2, e3, e4, e5, e6, e7, e8, e9, e10, e11, hc, or14, or12]
        refine CallK.of (by simp) (Kind_call hn _ hsl ?_)
        rw [hkk]
        simpa (disch := omega) [-binPV_or, e1, e2, e3, e4, e5, e6, e7, e8, e9, e10, e11, or14, or12] using hQb
      · rw [flg, if_neg hi, if_neg (by simp)] at hQb
        rw [if_neg hi] at hkk
        simp (disch := omega) [-binPV_andNot, -binPV_or, e1, e2, e3, e4, e5, e6, e7, e8, e9, e10, e11, hc, or14, or12]
        refine CallK.of (by simp) (Kind_call hn _ hsl ?_)
        by_cases h52 : 4503599627370496 ≤ b
        · rw [hkk, if_pos h52]
          rw [if_pos h52] at hQb
          simpa (disch := omega) [-binPV_or, e1, e2, e3, e4, e5, e6, e7, e8, e9, e10, e11, or14, or12] using hQb
        · rw [hkk, if_neg h52]
          rw [if_neg h52] at hQb
          by_cases hb0 : 0 < b
          · rw [if_pos hb0]
            simpa (disch := omega) [-binPV_or, e1, e2, e3, e4, e5, e6, e7, e8, e9, e10, e11, or14, or12] using hQb
          · rw [if_neg hb0]
            simpa (disch := omega) [-binPV_or, e1, e2, e3, e4, e5, e6, e7, e8, e9, e10, e11, or14, or12] using hQb
  · have hHs := hHs h0
    have hTH := hTH h0
    obtain ⟨d1, hd1⟩ : ∃ d1, d1 = d - 1 := ⟨_, rfl⟩
    rw [← hd1] at hHs
    have hw2 : binPV Tryd.prog .sub 3 (.int .i64 (d : Int)) (.int .i64 1) = some (.int .i64 (d1 : Int)) := by
      rw [binPV_sub]; congr 2; exact wrap_i64_is (by omega) (by omega)
    cases hm : more
    · rw [hm] at hQ key e8
      by_cases hx0 : x = 0
      · have hB : ¬ H < x := by omega
        have hE : ¬ x = H := by omega
        have hE' : ¬ 0 = H := by omega
        have hk := @key (q) (by rw [if_neg (fun h => by rcases h with h | ⟨h, _⟩ <;> omega), Nat.add_zero])
        have g1 : binPV Tryd.prog .gtr 3 (.int .i64 (d : Int)) (.int .i64 0) = some (.bool true) := gtrT (by omega)
        have g2 : binPV Tryd.prog .eql 22 (.int .u64 (x : Int)) (.int .u64 0) = some (.bool true) := eqlT (by omega)
        have g3 : binPV Tryd.prog .gtr 22 (.int .u64 (x : Int)) (.int .u64 (H : Int)) = some (.bool false) := gtrF (by omega)
        have g4 : binPV Tryd.prog .eql 22 (.int .u64 (x : Int)) (.int .u64 (H : Int)) = some (.bool false) := eqlF (by omega)
        simp (disch := omega) [-binPV_gtr, -binPV_eql, -binPV_shl, -binPV_shr, -binPV_and, -binPV_sub, -wrap_i64_at, -binPV_andNot, -binPV_or, c49R0, e1, e2, e3, e4, e5, e6, e7, e8, e9, e10, e11, f1, f2, f3, f4, f5, hw1, hlo, hmax, hw2, hHs, hqs, g1, g2, g3, g4]
        refine CallK.of (by simp) (hk fun b hb hbl hQb => ?_)
        have hex : (decide (x = 0) && !false) = true := by simp [hx0]
        rw [hex] at hQb
        have hc := clear_top (P := Tryd.prog) (t := 23) neg hbl
        have hkk := kindB_sB neg hbl
        have hsl := sB_lt (neg := neg) hbl
        by_cases hi : b = 9218868437227405312
        · rw [hi, flg, if_pos rfl] at hQb
          rw [if_pos hi] at hkk
          rw [hi] at hc hsl hkk
          rw [hi]
          simp (disch := omega) [-binPV_andNot, -binPV_or, e1, e2, e3, e4, e5, e6, e7, e8, e9, e10, e11, hc, or14, or12]
          refine CallK.of (by simp) (Kind_call hn _ hsl ?_)
          rw [hkk]
          simpa (disch := omega) [-binPV_or, e1, e2, e3, e4, e5, e6, e7, e8, e9, e10, e11, or14, or12] using hQb
        · rw [flg, if_neg hi, if_pos rfl] at hQb
          simpa (disch := omega) [-binPV_andNot, -binPV_or, e1, e2, e3, e4, e5, e6, e7, e8, e9, e10, e11, hc, hi, or14, or12] using hQb
      · by_cases hB : H < x
        · have hk := @key (qp) (by rw [if_pos (.inl hB), hqp])
          have g1 : binPV Tryd.prog .gtr 3 (.int .i64 (d : Int)) (.int .i64 0) = some (.bool true) := gtrT (by omega)
          have g2 : binPV Tryd.prog .eql 22 (.int .u64 (x : Int)) (.int .u64 0) = some (.bool false) := eqlF (by omega)
          have g3 : binPV Tryd.prog .gtr 22 (.int .u64 (x : Int)) (.int .u64 (H : Int)) = some (.bool true) := gtrT (by omega)
          simp (disch := omega) [-binPV_gtr, -binPV_eql, -binPV_shl, -binPV_shr, -binPV_and, -binPV_sub, -wrap_i64_at, -binPV_andNot, -binPV_or, c49R0, e1, e2, e3, e4, e5, e6, e7, e8, e9, e10, e11, f1, f2, f3, f4, f5, hw1, hlo, hmax, hw2, hHs, hqs, g1, g2, g3]
          refine CallK.of (by simp) (hk fun b hb hbl hQb => ?_)
          have hex : (decide (x = 0) && !false) = false := by simp [hx0]
          rw [hex] at hQb
          have hc := clear_top (P := Tryd.prog) (t := 23) neg hbl
          have hkk := kindB_sB neg hbl
          have hsl := sB_lt (neg := neg) hbl
          by_cases hi : b = 9218868437227405312
          · rw [hi, flg, if_pos rfl] at hQb
            rw [if_pos hi] at hkk
            rw [hi] at hc hsl hkk
            rw [hi]
            simp (disch := omega) [-binPV_andNot, -binPV_or, e1, e2, e3, e4, e5, e6, e7, e8, e9, e10, e11, hc, or14, or12]
            refine CallK.of (by simp) (Kind_call hn _ hsl ?_)
            rw [hkk]
            simpa (disch := omega) [-binPV_or, e1, e2, e3, e4, e5, e6, e7, e8, e9, e10, e11, or14, or12] using hQb
          · rw [flg, if_neg hi, if_neg (by simp)] at hQb
            rw [if_neg hi] at hkk
            simp (disch := omega) [-binPV_andNot, -binPV_or, e1, e2, e3, e4, e5, e6, e7, e8, e9, e10, e11, hc, or14, or12]
            refine CallK.of (by simp) (Kind_call hn _ hsl ?_)
            by_cases h52 : 4503599627370496 ≤ b
            · rw [hkk, if_pos h52]
              rw [if_pos h52] at hQb
              simpa (disch := omega) [-binPV_or, e1, e2, e3, e4, e5, e6, e7, e8, e9, e10, e11, or14, or12] using hQb
            · rw [hkk, if_neg h52]
              rw [if_neg h52] at hQb
              by_cases hb0 : 0 < b
              · rw [if_pos hb0]
                simpa (disch := omega) [-binPV_or, e1, e2, e3, e4, e5, e6, e7, e8, e9, e10, e11, or14, or12] using hQb
              · rw [if_neg hb0]
                simpa (disch := omega) [-binPV_or, e1, e2, e3, e4, e5, e6, e7, e8, e9, e10, e11, or14, or12] using hQb
        · by_cases hE : x = H
          · by_cases hO : o = 1
            · have hk := @key (qp) (by rw [if_pos (.inr ⟨hE, .inr hO⟩), hqp])
              have g1 : binPV Tryd.prog .gtr 3 (.int .i64 (d : Int)) (.int .i64 0) = some (.bool true) := gtrT (by omega)
              have g2 : binPV Tryd.prog .eql 22 (.int .u64 (x : Int)) (.int .u64 0) = some (.bool false) := eqlF (by omega)
              have g3 : binPV Tryd.prog .gtr 22 (.int .u64 (x : Int)) (.int .u64 (H : Int)) = some (.bool false) := gtrF (by omega)
              have g4 : binPV Tryd.prog .eql 22 (.int .u64 (x : Int)) (.int .u64 (H : Int)) = some (.bool true) := eqlT (by omega)
              have g5 : binPV Tryd.prog .eql 22 (.int .u64 (o : Int)) (.int .u64 1) = some (.bool true) := eqlT (by omega)
              simp (disch := omega) [-binPV_gtr, -binPV_eql, -binPV_shl, -binPV_shr, -binPV_and, -binPV_sub, -wrap_i64_at, -binPV_andNot, -binPV_or, c49R0, e1, e2, e3, e4, e5, e6, e7, e8, e9, e10, e11, f1, f2, f3, f4, f5, hw1, hlo, hmax, hw2, hHs, hqs, g1, g2, g3, g4, g5]
              refine CallK.of (by simp) (hk fun b hb hbl hQb => ?_)
              have hex : (decide (x = 0) && !false) = false := by simp [hx0]
              rw [hex] at hQb
              have hc := clear_top (P := Tryd.prog) (t := 23) neg hbl
              have hkk := kindB_sB neg hbl
              have hsl := sB_lt (neg := neg) hbl
              by_cases hi : b = 9218868437227405312
              · rw [hi, flg, if_pos rfl] at hQb
                rw [if_pos hi] at hkk
                rw [hi] at hc hsl hkk
                rw [hi]
                simp (disch := omega) [-binPV_andNot, -binPV_or, e1, e2, e3, e4, e5, e6, e7, e8, e9, e10, e11, hc, or14, or12]
                refine CallK.of (by simp) (Kind_call hn _ hsl ?_)
                rw [hkk]
                simpa (disch := omega) [-binPV_or, e1, e2, e3, e4, e5, e6, e7, e8, e9, e10, e11, or14, or12] using hQb
              · rw [flg, if_neg hi, if_neg (by simp)] at hQb
                rw [if_neg hi] at hkk
                simp (disch := omega) [-binPV_andNot, -binPV_or, e1, e2, e3, e4, e5, e6, e7, e8, e9, e10, e11, hc, or14, or12]
                refine CallK.of (by simp) (Kind_call hn _ hsl ?_)
                by_cases h52 : 4503599627370496 ≤ b
                · rw [hkk, if_pos h52]
                  rw [if_pos h52] at hQb
                  simpa (disch := omega) [-binPV_or, e1, e2, e3, e4, e5, e6, e7, e8, e9, e10, e11, or14, or12] using hQb
                · rw [hkk, if_neg h52]
                  rw [if_neg h52] at hQb
                  by_cases hb0 : 0 < b
                  · rw [if_pos hb0]
                    simpa (disch := omega) [-binPV_or, e1, e2, e3, e4, e5, e6, e7, e8, e9, e10, e11, or14, or12] using hQb
                  · rw [if_neg hb0]
                    simpa (disch := omega) [-binPV_or, e1, e2, e3, e4, e5, e6, e7, e8, e9, e10, e11, or14, or12] using hQb
            · have hk := @key (q) (by rw [if_neg (fun h => by rcases h with h | ⟨_, h | h⟩; omega; cases h; omega), Nat.add_zero])
              have g1 : binPV Tryd.prog .gtr 3 (.int .i64 (d : Int)) (.int .i64 0) = some (.bool true) := gtrT (by omega)
              have g2 : binPV Tryd.prog .eql 22 (.int .u64 (x : Int)) (.int .u64 0) = some (.bool false) := eqlF (by omega)
              have g3 : binPV Tryd.prog .gtr 22 (.int .u64 (x : Int)) (.int .u64 (H : Int)) = some (.bool false) := gtrF (by omega)
              have g4 : binPV Tryd.prog .eql 22 (.int .u64 (x : Int)) (.int .u64 (H : Int)) = some (.bool true) := eqlT (by omega)
              have g5 : binPV Tryd.prog .eql 22 (.int .u64 (o : Int)) (.int .u64 1) = some (.bool false) := eqlF (by omega)
              simp (disch := omega) [-binPV_gtr, -binPV_eql, -binPV_shl, -binPV_shr, -binPV_and, -binPV_sub, -wrap_i64_at, -binPV_andNot, -binPV_or, c49R0, e1, e2, e3, e4, e5, e6, e7, e8, e9, e10, e11, f1, f2, f3, f4, f5, hw1, hlo, hmax, hw2, hHs, hqs, g1, g2, g3, g4, g5]
              refine CallK.of (by simp) (hk fun b hb hbl hQb => ?_)
              have hex : (decide (x = 0) && !false) = false := by simp [hx0]
              rw [hex] at hQb
              have hc := clear_top (P := Tryd.prog) (t := 23) neg hbl
              have hkk := kindB_sB neg hbl
              have hsl := sB_lt (neg := neg) hbl
              by_cases hi : b = 9218868437227405312
              · rw [hi, flg, if_pos rfl] at hQb
                rw [if_pos hi] at hkk
                rw [hi] at hc hsl hkk
                rw [hi]
                simp (disch := omega) [-binPV_andNot, -binPV_or, e1, e2, e3, e4, e5, e6, e7, e8, e9, e10, e11, hc, or14, or12]
                refine CallK.of (by simp) (Kind_call hn _ hsl ?_)
                rw [hkk]
                simpa (disch := omega) [-binPV_or, e1, e2, e3, e4, e5, e6, e7, e8, e9, e10, e11, or14, or12] using hQb
              · rw [flg, if_neg hi, if_neg (by simp)] at hQb
                rw [if_neg hi] at hkk
                simp (disch := omega) [-binPV_andNot, -binPV_or, e1, e2, e3, e4, e5, e6, e7, e8, e9, e10, e11, hc, or14, or12]
                refine CallK.of (by simp) (Kind_call hn _ hsl ?_)
                by_cases h52 : 4503599627370496 ≤ b
                · rw [hkk, if_pos h52]
                  rw [if_pos h52] at hQb
                  simpa (disch := omega) [-binPV_or, e1, e2, e3, e4, e5, e6, e7, e8, e9, e10, e11, or14, or12] using hQb
                · rw [hkk, if_neg h52]
                  rw [if_neg h52] at hQb
                  by_cases hb0 : 0 < b
                  · rw [if_pos hb0]
                    simpa (disch := omega) [-binPV_or, e1, e2, e3, e4, e5, e6, e7, e8, e9, e10, e11, or14, or12] using hQb
                  · rw [if_neg hb0]
                    simpa (disch := omega) [-binPV_or, e1, e2, e3, e4, e5, e6, e7, e8, e9, e10, e11, or14, or12] using hQb
          · have hk := @key (q) (by rw [if_neg (fun h => by rcases h with h | ⟨h, _⟩ <;> omega), Nat.add_zero])
            have g1 : binPV Tryd.prog .gtr 3 (.int .i64 (d : Int)) (.int .i64 0) = some (.bool true) := gtrT (by omega)
            have g2 : binPV Tryd.prog .eql 22 (.int .u64 (x : Int)) (.int .u64 0) = some (.bool false) := eqlF (by omega)
            have g3 : binPV Tryd.prog .gtr 22 (.int .u64 (x : Int)) (.int .u64 (H : Int)) = some (.bool false) := gtrF (by omega)
            have g4 : binPV Tryd.prog .eql 22 (.int .u64 (x : Int)) (.int .u64 (H : Int)) = some (.bool false) := eqlF (by omega)
            simp (disch := omega) [-binPV_gtr, -binPV_eql, -binPV_shl, -binPV_shr, -binPV_and, -binPV_sub, -wrap_i64_at, -binPV_andNot, -binPV_or, c49R0, e1, e2, e3, e4, e5, e6, e7, e8, e9, e10, e11, f1, f2, f3, f4, f5, hw1, hlo, hmax, hw2, hHs, hqs, g1, g2, g3, g4]
            refine CallK.of (by simp) (hk fun b hb hbl hQb => ?_)
            have hex : (decide (x = 0) && !false) = false := by simp [hx0]
            rw [hex] at hQb
            have hc := clear_top (P := Tryd.prog) (t := 23) neg hbl
            have hkk := kindB_sB neg hbl
            have hsl := sB_lt (neg := neg) hbl
            by_cases hi : b = 9218868437227405312
            · rw [hi, flg, if_pos rfl] at hQb
              rw [if_pos hi] at hkk
              rw [hi] at hc hsl hkk
              rw [hi]
              simp (disch := omega) [-binPV_andNot, -binPV_or, e1, e2, e3, e4, e5, e6, e7, e8, e9, e10, e11, hc, or14, or12]
              refine CallK.of (by simp) (Kind_call hn _ hsl ?_)
              rw [hkk]
              simpa (disch := omega) [-binPV_or, e1, e2, e3, e4, e5, e6, e7, e8, e9, e10, e11, or14, or12] using hQb
            · rw [flg, if_neg hi, if_neg (by simp)] at hQb
              rw [if_neg hi] at hkk
              simp (disch := omega) [-binPV_andNot, -binPV_or, e1, e2, e3, e4, e5, e6, e7, e8, e9, e10, e11, hc, or14, or12]
              refine CallK.of (by simp) (Kind_call hn _ hsl ?_)
              by_cases h52 : 4503599627370496 ≤ b
              · rw [hkk, if_pos h52]
                rw [if_pos h52] at hQb
                simpa (disch := omega) [-binPV_or, e1, e2, e3, e4, e5, e6, e7, e8, e9, e10, e11, or14, or12] using hQb
              · rw [hkk, if_neg h52]
                rw [if_neg h52] at hQb
                by_cases hb0 : 0 < b
                · rw [if_pos hb0]
                  simpa (disch := omega) [-binPV_or, e1, e2, e3, e4, e5, e6, e7, e8, e9, e10, e11, or14, or12] using hQb
                · rw [if_neg hb0]
                  simpa (disch := omega) [-binPV_or, e1, e2, e3, e4, e5, e6, e7, e8, e9, e10, e11, or14, or12] using hQb
    · rw [hm] at hQ key e8
      by_cases hx0 : x = 0
      · have hB : ¬ H < x := by omega
        have hE : ¬ x = H := by omega
        have hE' : ¬ 0 = H := by omega
        have hk := @key (q) (by rw [if_neg (fun h => by rcases h with h | ⟨h, _⟩ <;> omega), Nat.add_zero])
        have g1 : binPV Tryd.prog .gtr 3 (.int .i64 (d : Int)) (.int .i64 0) = some (.bool true) := gtrT (by omega)
        have g2 : binPV Tryd.prog .eql 22 (.int .u64 (x : Int)) (.int .u64 0) = some (.bool true) := eqlT (by omega)
        have g3 : binPV Tryd.prog .gtr 22 (.int .u64 (x : Int)) (.int .u64 (H : Int)) = some (.bool false) := gtrF (by omega)
        have g4 : binPV Tryd.prog .eql 22 (.int .u64 (x : Int)) (.int .u64 (H : Int)) = some (.bool false) := eqlF (by omega)
        simp (disch := omega) [-binPV_gtr, -binPV_eql, -binPV_shl, -binPV_shr, -binPV_and, -binPV_sub, -wrap_i64_at, -binPV_andNot, -binPV_or, c49R0, e1, e2, e3, e4, e5, e6, e7, e8, e9, e10, e11, f1, f2, f3, f4, f5, hw1, hlo, hmax, hw2, hHs, hqs, g1, g2, g3, g4]
        refine CallK.of (by simp) (hk fun b hb hbl hQb => ?_)
        have hex : (decide (x = 0) && !true) = false := by simp [hx0]
        rw [hex] at hQb
        have hc := clear_top (P := Tryd.prog) (t := 23) neg hbl
        have hkk := kindB_sB neg hbl
        have hsl := sB_lt (neg := neg) hbl
        by_cases hi : b = 9218868437227405312
        · rw [hi, flg, if_pos rfl] at hQb
          rw [if_pos hi] at hkk
          rw [hi] at hc hsl hkk
          rw [hi]
          simp (disch := omega) [-binPV_andNot, -binPV_or, e1, e2, e3, e4, e5, e6, e7, e8, e9, e10, e11, hc, or14, or12]
          refine CallK.of (by simp) (Kind_call hn _ hsl ?_)
          rw [hkk]
          simpa (disch := omega) [-binPV_or, e1, e2, e3, e4, e5, e6, e7, e8, e9, e10, e11, or14, or12] using hQb
        · rw [flg, if_neg hi, if_neg (by simp)] at hQb
          rw [if_neg hi] at hkk
          simp (disch := omega) [-binPV_andNot, -binPV_or, e1, e2, e3, e4, e5, e6, e7, e8, e9, e10, e11, hc, or14, or12]
          refine CallK.of (by simp) (Kind_call hn _ hsl ?_)
          by_cases h52 : 4503599627370496 ≤ b
          · rw [hkk, if_pos h52]
            rw [if_pos h52] at hQb
            simpa (disch := omega) [-binPV_or, e1, e2, e3, e4, e5, e6, e7, e8, e9, e10, e11, or14, or12] using hQb
          · rw [hkk, if_neg h52]
            rw [if_neg h52] at hQb
            by_cases hb0 : 0 < b
            · rw [if_pos hb0]
              simpa (disch := omega) [-binPV_or, e1, e2, e3, e4, e5, e6, e7, e8, e9, e10, e11, or14, or12] using hQb
            · rw [if_neg hb0]
              simpa (disch := omega) [-binPV_or, e1, e2, e3, e4, e5, e6, e7, e8, e9, e10, e11, or14, or12] using hQb
      · by_cases hB : H < x
        · have hk := @key (qp) (by rw [if_pos (.inl hB), hqp])
          have g1 : binPV Tryd.prog .gtr 3 (.int .i64 (d : Int)) (.int .i64 0) = some (.bool true) := gtrT (by omega)
          have g2 : binPV Tryd.prog .eql 22 (.int .u64 (x : Int)) (.int .u64 0) = some (.bool false) := eqlF (by omega)
          have g3 : binPV Tryd.prog .gtr 22 (.int .u64 (x : Int)) (.int .u64 (H : Int)) = some (.bool true) := gtrT (by omega)
          simp (disch := omega) [-binPV_gtr, -binPV_eql, -binPV_shl, -binPV_shr, -binPV_and, -binPV_sub, -wrap_i64_at, -binPV_andNot, -binPV_or, c49R0, e1, e2, e3, e4, e5, e6, e7, e8, e9, e10, e11, f1, f2, f3, f4, f5, hw1, hlo, hmax, hw2, hHs, hqs, g1, g2, g3]
          refine CallK.of (by simp) (hk fun b hb hbl hQb => ?_)
          have hex : (decide (x = 0) && !true) = false := by simp [hx0]
          rw [hex] at hQb
          have hc := clear_top (P := Tryd.prog) (t := 23) neg hbl
          have hkk := kindB_sB neg hbl
          have hsl := sB_lt (neg := neg) hbl
          by_cases hi : b = 9218868437227405312
          · rw [hi, flg, if_pos rfl] at hQb
            rw [if_pos hi] at hkk
            rw [hi] at hc hsl hkk
            rw [hi]
            simp (disch := omega) [-binPV_andNot, -binPV_or, e1, e2, e3, e4, e5, e6, e7, e8, e9, e10, e11, hc, or14, or12]
            refine CallK.of (by simp) (Kind_call hn _ hsl ?_)
            rw [hkk]
            simpa (disch := omega) [-binPV_or, e1, e2, e3, e4, e5, e6, e7, e8, e9, e10, e11, or14, or12] using hQb
          · rw [flg, if_neg hi, if_neg (by simp)] at hQb
            rw [if_neg hi] at hkk
            simp (disch := omega) [-binPV_andNot, -binPV_or, e1, e2, e3, e4, e5, e6, e7, e8, e9, e10, e11, hc, or14, or12]
            refine CallK.of (by simp) (Kind_call hn _ hsl ?_)
            by_cases h52 : 4503599627370496 ≤ b
            · rw [hkk, if_pos h52]
              rw [if_pos h52] at hQb
              simpa (disch := omega) [-binPV_or, e1, e2, e3, e4, e5, e6, e7, e8, e9, e10, e11, or14, or12] using hQb
            · rw [hkk, if_neg h52]
              rw [if_neg h52] at hQb
              by_cases hb0 : 0 < b
              · rw [if_pos hb0]
                simpa (disch := omega) [-binPV_or, e1, e2, e3, e4, e5, e6, e7, e8, e9, e10, e11, or14, or12] using hQb
              · rw [if_neg hb0]
                simpa (disch := omega) [-binPV_or, e1, e2, e3, e4, e5, e6, e7, e8, e9, e10, e11, or14, or12] using hQb
        · by_cases hE : x = H
          · have hk := @key (qp) (by rw [if_pos (.inr ⟨hE, .inl rfl⟩), hqp])
            have g1 : binPV Tryd.prog .gtr 3 (.int .i64 (d : Int)) (.int .i64 0) = some (.bool true) := gtrT (by omega)
            have g2 : binPV Tryd.prog .eql 22 (.int .u64 (x : Int)) (.int .u64 0) = some (.bool false) := eqlF (by omega)
            have g3 : binPV Tryd.prog .gtr 22 (.int .u64 (x : Int)) (.int .u64 (H : Int)) = some (.bool false) := gtrF (by omega)
            have g4 : binPV Tryd.prog .eql 22 (.int .u64 (x : Int)) (.int .u64 (H : Int)) = some (.bool true) := eqlT (by omega)
            simp (disch := omega) [-binPV_gtr, -binPV_eql, -binPV_shl, -binPV_shr, -binPV_and, -binPV_sub, -wrap_i64_at, -binPV_andNot, -binPV_or, c49R0, e1, e2, e3, e4, e5, e6, e7, e8, e9, e10, e11, f1, f2, f3, f4, f5, hw1, hlo, hmax, hw2, hHs, hqs, g1, g2, g3, g4]
            refine CallK.of (by simp) (hk fun b hb hbl hQb => ?_)
            have hex : (decide (x = 0) && !true) = false := by simp [hx0]
            rw [hex] at hQb
            have hc := clear_top (P := Tryd.prog) (t := 23) neg hbl
            have hkk := kindB_sB neg hbl
            have hsl := sB_lt (neg := neg) hbl
            by_cases hi : b = 9218868437227405312
            · rw [hi, flg, if_pos rfl] at hQb
              rw [if_pos hi] at hkk
              rw [hi] at hc hsl hkk
              rw [hi]
              simp (disch := omega) [-binPV_andNot, -binPV_or, e1, e2, e3, e4, e5, e6, e7, e8, e9, e10, e11, hc, or14, or12]
              refine CallK.of (by simp) (Kind_call hn _ hsl ?_)
              rw [hkk]
              simpa (disch := omega) [-binPV_or, e1, e2, e3, e4, e5, e6, e7, e8, e9, e10, e11, or14, or12] using hQb
            · rw [flg, if_neg hi, if_neg (by simp)] at hQb
              rw [if_neg hi] at hkk
              simp (disch := omega) [-binPV_andNot, -binPV_or, e1, e2, e3, e4, e5, e6, e7, e8, e9, e10, e11, hc, or14, or12]
              refine CallK.of (by simp) (Kind_call hn _ hsl ?_)
              by_cases h52 : 4503599627370496 ≤ b
              · rw [hkk, if_pos h52]
                rw [if_pos h52] at hQb
                simpa (disch := omega) [-binPV_or, e1, e2, e3, e4, e5, e6, e7, e8, e9, e10, e11, or14, or12] using hQb
              · rw [hkk, if_neg h52]
                rw [if_neg h52] at hQb
                by_cases hb0 : 0 < b
                · rw [if_pos hb0]
                  simpa (disch := omega) [-binPV_or, e1, e2, e3, e4, e5, e6, e7, e8, e9, e10, e11, or14, or12] using hQb
                · rw [if_neg hb0]
                  simpa (disch := omega) [-binPV_or, e1, e2, e3, e4, e5, e6, e7, e8, e9, e10, e11, or14, or12] using hQb
          · have hk := @key (q) (by rw [if_neg (fun h => by rcases h with h | ⟨h, _⟩ <;> omega), Nat.add_zero])
            have g1 : binPV Tryd.prog .gtr 3 (.int .i64 (d : Int)) (.int .i64 0) = some (.bool true) := gtrT (by omega)
            have g2 : binPV Tryd.prog .eql 22 (.int .u64 (x : Int)) (.int .u64 0) = some (.bool false) := eqlF (by omega)
            have g3 : binPV Tryd.prog .gtr 22 (.int .u64 (x : Int)) (.int .u64 (H : Int)) = some (.bool false) := gtrF (by omega)
            have g4 : binPV Tryd.prog .eql 22 (.int .u64 (x : Int)) (.int .u64 (H : Int)) = some (.bool false) := eqlF (by omega)
            simp (disch := omega) [-binPV_gtr, -binPV_eql, -binPV_shl, -binPV_shr, -binPV_and, -binPV_sub, -wrap_i64_at, -binPV_andNot, -binPV_or, c49R0, e1, e2, e3, e4, e5, e6, e7, e8, e9, e10, e11, f1, f2, f3, f4, f5, hw1, hlo, hmax, hw2, hHs, hqs, g1, g2, g3, g4]
            refine CallK.of (by simp) (hk fun b hb hbl hQb => ?_)
            have hex : (decide (x = 0) && !true) = false := by simp [hx0]
            rw [hex] at hQb
            have hc := clear_top (P := Tryd.prog) (t := 23) neg hbl
            have hkk := kindB_sB neg hbl
            have hsl := sB_lt (neg := neg) hbl
            by_cases hi : b = 9218868437227405312
            · rw [hi, flg, if_pos rfl] at hQb
              rw [if_pos hi] at hkk
              rw [hi] at hc hsl hkk
              rw [hi]
              simp (disch := omega) [-binPV_andNot, -binPV_or, e1, e2, e3, e4, e5, e6, e7, e8, e9, e10, e11, hc, or14, or12]
              refine CallK.of (by simp) (Kind_call hn _ hsl ?_)
              rw [hkk]
              simpa (disch := omega) [-binPV_or, e1, e2, e3, e4, e5, e6, e7, e8, e9, e10, e11, or14, or12] using hQb
            · rw [flg, if_neg hi, if_neg (by simp)] at hQb
              rw [if_neg hi] at hkk
              simp (disch := omega) [-binPV_andNot, -binPV_or, e1, e2, e3, e4, e5, e6, e7, e8, e9, e10, e11, hc, or14, or12]
              refine CallK.of (by simp) (Kind_call hn _ hsl ?_)
              by_cases h52 : 4503599627370496 ≤ b
              · rw [hkk, if_pos h52]
                rw [if_pos h52] at hQb
                simpa (disch := omega) [-binPV_or, e1, e2, e3, e4, e5, e6, e7, e8, e9, e10, e11, or14, or12] using hQb
              · rw [hkk, if_neg h52]
                rw [if_neg h52] at hQb
                by_cases hb0 : 0 < b
                · rw [if_pos hb0]
                  simpa (disch := omega) [-binPV_or, e1, e2, e3, e4, e5, e6, e7, e8, e9, e10, e11, or14, or12] using hQb
                · rw [if_neg hb0]
                  simpa (disch := omega) [-binPV_or, e1, e2, e3, e4, e5, e6, e7, e8, e9, e10, e11, or14, or12] using hQb
end Go.Proofs.YtdaoblhmnafllaaDoor

/-! SfF: The nearest number: the whole function. -/
set_option linter.unusedVariables false
set_option linter.unusedSimpArgs false
set_option maxHeartbeats 2000000
set_option maxRecDepth 20000
namespace Go.Proofs.YtdaoblhmnafllaaDoor
open Go.Proofs

/-- Nothing is left of it. -/
theorem Near_rest0 {n : Nat} (hn : 0 < n) (neg : Bool) (u : Nat) (e : Int) (more : Bool) (hu : u < 4611686018427387904) (h0 : u ≠ 0) (he : -1000000 ≤ e ∧ e ≤ 1000000) (h1 : e + 63 < -1074) {s : St} (hs : NearAt neg u e more n 63 s) {Q : PV → Nat → List Nat → Prop}
    (hQ : Q (.tup [.int .u64 (sB neg 0 : Nat), .int .u8 3]) n []) : GO Tryd.prog c49R0 (fin Tryd.prog [.tmp 8, .tmp 9] n Q) s := by
  obtain ⟨e1, e2, e3, e4, e5⟩ := hs
  simp at e5
  obtain ⟨e5, e6, e7, e8, e9, e10, e11⟩ := e5
  have f1 : binPV Tryd.prog .shr 22 (.int .u64 (u : Int)) (.int .i64 63) = some (.int .u64 0) := by
    have := shr_nat (P := Tryd.prog) (t := 22) (k := .u64) (k' := .i64) (a := u) (b := 63) (by rw [bits_u64]; omega)
    rw [show u / 2 ^ 63 = 0 by omega] at this
    exact this
  have f2 : binPV Tryd.prog .shl 22 (.int .u64 1) (.int .i64 63) = some (.int .u64 9223372036854775808) := shl_one_u64 (P := Tryd.prog) (t := 22) (k' := .i64) (b := 63) (by omega)
  have f3 : binPV Tryd.prog .shl 22 (.int .u64 1) (.int .i64 62) = some (.int .u64 4611686018427387904) := shl_one_u64 (P := Tryd.prog) (t := 22) (k' := .i64) (b := 62) (by omega)
  have f4 : binPV Tryd.prog .and 22 (.int .u64 (u : Int)) (.int .u64 9223372036854775807) = some (.int .u64 (u : Int)) := by
    have := and_u64_lit (P := Tryd.prog) (t := 22) (a := u) (n := 9223372036854775807) (by omega) (by decide)
    rw [show u &&& 9223372036854775807 = u % 2 ^ 63 from and_mask _ 63, Nat.mod_eq_of_lt (by omega)] at this
    exact this
  have hB : ¬ 4611686018427387904 < u := by omega
  have hE : ¬ u = 4611686018427387904 := by omega
  have hw1 : IntKind.i64.wrap (e + 63) = e + 63 := wrap_i64_is rfl (by omega)
  have hmax : maxV (.int .i64 (e + 63)) (.int .i64 (-1074)) = some (.int .i64 (-1074)) := by simp [maxV]; omega
  have hp : ∀ {Q' : PV → Nat → List Nat → Prop}, Q' (.int .u64 (sB neg 0 : Nat)) n [] → PCall Tryd.prog 69 [.bool neg, .int .u64 0, .int .i64 (-1074)] n Q' := by
    intro Q' h
    have := Pack_le hn neg 0 0 (Q := Q') (by omega) (by omega) (by rw [packG_zero]; exact h)
    exact this
  have hkk := kindB_sB neg (b := 0) (by omega)
  have hsl := sB_lt (neg := neg) (b := 0) (by omega)
  simp at hkk
  have key : ∀ {Q' : PV → Nat → List Nat → Prop}, Q' (.int .i64 0) n [] → PCall Tryd.prog 10 [.int .u64 (sB neg 0 : Nat)] n Q' := by
    intro Q' h
    refine Kind_call hn _ hsl ?_
    rw [hkk]; exact h
  simp (disch := omega) [-binPV_shl, -binPV_shr, -binPV_and, -binPV_andNot, -binPV_or, c49R0, e1, e2, e3, e4, e5, e6, e7, e8, e9, e10, e11, f1, f2, f3, f4, h1, hmax, h0, hB, hE]
  refine CallK.of (by simp) (hp ?_)
  simp (disch := omega) [-binPV_andNot, -binPV_or, e1, e2, e3, e4, e5, e6, e7, e8, e9, e10, e11, or14, or12]
  refine CallK.of (by simp) (key ?_)
  simpa (disch := omega) [-binPV_or, e1, e2, e3, e4, e5, e6, e7, e8, e9, e10, e11, or14, or12] using hQ
/-- The number nearest to one. -/
theorem Near_call {n : Nat} (hn : 0 < n) (neg : Bool) (u s r M L : Nat) (e : Int) (hu1 : 0 < u) (hu : u < 4611686018427387904) (hM : M = u * 2 ^ s + r) (hr : r < 2 ^ s) (hL : bitsL M L) (h0 : s = 0 ∨ 9007199254740992 ≤ u ∨ e < -1074) (he : -1000000 ≤ e ∧ e ≤ 1000000) {Q : PV → Nat → List Nat → Prop}
    (hQ : Q (.tup [.int .u64 (sB neg (spB M (e - s) L) : Nat), .int .u8 (flg (spB M (e - s) L) (spX M (e - s) L))]) n []) : PCall Tryd.prog 49 [.bool neg, .int .u64 u, .int .i64 e, .bool (decide (0 < r))] n Q := by
  refine of49 hn ?_
  have hM0 : 0 < M := by have := hL.2; have : 0 < 2 ^ L := Nat.pos_of_ne_zero (by simp); omega
  have hur : u ≠ 0 ∨ decide (0 < r) = true := by
    by_cases h : u = 0
    · subst h; right; simp; omega
    · exact .inl h
  have hur2 : ¬ (u = 0 ∧ ¬ 0 < r) := by simp at hur; omega
  obtain ⟨more, hmo⟩ : ∃ more, more = decide (0 < r) := ⟨_, rfl⟩
  rw [← hmo] at hur
  rw [← hmo]
  have go : ∀ {s' : St}, NearAt neg u e more n 0 s' → GO Tryd.prog (.loop c49L0) (PExit.inBlock 0 (PExit.then (GO Tryd.prog c49R0 (fin Tryd.prog [.tmp 8, .tmp 9] n Q)) (fin Tryd.prog [.tmp 8, .tmp 9] n Q))) s' := by
    intro s' hs'
    refine GO_loopN (fun k s' => ∃ d, d + k = 62 ∧ NearAt neg u e more n d s' ∧ (d = 0 ∨ 9007199254740992 ≤ u / 2 ^ (d - 1) ∨ e + d ≤ -1074)) 62 ⟨0, rfl, hs', .inl rfl⟩ ?_
    rintro k s' ⟨d, hd, hs', hmin⟩
    have HS := hs'
    obtain ⟨e1, e2, e3, e4, e5⟩ := hs'
    simp at e5
    obtain ⟨e5, e6, e7, e8, e9, e10, e11⟩ := e5
    have f1 := shr_nat (P := Tryd.prog) (t := 22) (k := .u64) (k' := .i64) (a := u) (b := d) (by rw [bits_u64]; omega)
    obtain ⟨q, hq⟩ : ∃ q, q = u / 2 ^ d := ⟨_, rfl⟩
    rw [← hq] at f1
    have hw1 : IntKind.i64.wrap (e + d) = e + d := wrap_i64_is rfl (by omega)
    have hw2 : IntKind.i64.wrap ((d : Int) + 1) = ((d + 1 : Nat) : Int) := wrap_i64_is (by omega) (by omega)
    obtain ⟨d1, hd1⟩ : ∃ d1, d1 = d + 1 := ⟨_, rfl⟩
    rw [← hd1] at hw2
    by_cases hc : 9007199254740992 ≤ q ∨ e + d < -1074
    · by_cases hlast : d = 62
      · -- 63 are dropped
        have hq0 : ¬ 9007199254740992 ≤ q := by
          rw [hq, hlast]; omega
        have hed : e + d < -1074 := by omega
        have hd63 : (d1 : Int) = 63 := by omega
        have hs63 : ∀ {s2 : St}, NearAt neg u e more n 63 s2 → GO Tryd.prog c49R0 (fin Tryd.prog [.tmp 8, .tmp 9] n Q) s2 := by
          intro s2 h2
          obtain ⟨h3, h4⟩ := near_63 (e := e) hM hr hL hu (by omega)
          rw [h3, h4] at hQ
          by_cases hh : e + 63 < -1074
          · exact Near_rest0 hn neg u e more hu (by omega) he hh h2 hQ
          · have h63 : u / 2 ^ 63 = 0 := by omega
            have hrup : rup u 63 more = 0 := by
              unfold rup
              rw [h63, if_neg]
              rintro (h | ⟨h, _⟩) <;> omega
            refine Near_rest hn neg u 63 e more (by omega) (by omega) he (by omega) (by omega) h2 ?_
            rw [hrup, packG_zero]
            have : (decide (u % 2 ^ 63 = 0) && !more) = false := by
              rcases hur with h | h
              · have : u % 2 ^ 63 ≠ 0 := by omega
                simp [this]
              · simp [h]
            rw [this]
            exact hQ
        have hdd : (d : Int) = 62 := by omega
        simp (disch := omega) [-binPV_shr, -wrap_i64_at, c49L0, e1, e2, e3, e4, e5, e6, e7, e8, e9, e10, e11, f1, hw1, hw2, hq0, hed, hd63]
        refine hs63 ?_
        simp [NearAt, At, e1, e2, e3, e4, e5, e6, e7, e8, e9, e10, e11]
      · have hne : ¬ d1 = 63 := by omega
        have hne' : ¬ (d1 : Int) = 63 := by omega
        have hnext : d1 = 0 ∨ 9007199254740992 ≤ u / 2 ^ (d1 - 1) ∨ e + d1 ≤ -1074 := by
          rw [hd1, Nat.add_sub_cancel, ← hq]
          rcases hc with hc | hc
          · exact .inr (.inl hc)
          · right; right; omega
        by_cases hq0 : 9007199254740992 ≤ q
        · simp (disch := omega) [-binPV_shr, -wrap_i64_at, c49L0, e1, e2, e3, e4, e5, e6, e7, e8, e9, e10, e11, f1, hw1, hw2, hq0, hne, hne']
          exact ⟨k - 1, by omega, d1, by omega, by simp [NearAt, At, e1, e2, e3, e4, e5, e6, e7, e8, e9, e10, e11], hnext⟩
        · have hed : e + d < -1074 := by omega
          simp (disch := omega) [-binPV_shr, -wrap_i64_at, c49L0, e1, e2, e3, e4, e5, e6, e7, e8, e9, e10, e11, f1, hw1, hw2, hq0, hed, hne, hne']
          exact ⟨k - 1, by omega, d1, by omega, by simp [NearAt, At, e1, e2, e3, e4, e5, e6, e7, e8, e9, e10, e11], hnext⟩
    · have hq0 : ¬ 9007199254740992 ≤ q := by omega
      have hed : ¬ e + d < -1074 := by omega
      have fin : ∀ {s2 : St}, NearAt neg u e more n d s2 → GO Tryd.prog c49R0 (fin Tryd.prog [.tmp 8, .tmp 9] n Q) s2 := by
        intro s2 h2
        refine Near_rest hn neg u d e more (by omega) (by omega) he (by omega) (by omega) h2 ?_
        by_cases hd0 : d = 0
        · have hs0 : s = 0 := by
            have : u / 2 ^ d = u := by rw [hd0]; simp
            omega
          have hr0 : r = 0 := by rw [hs0] at hr; simpa using hr
          have hMu : M = u := by rw [hM, hs0, hr0]; simp
          have hmf : more = false := by rw [hmo, hr0]; rfl
          have hM53 : M < 9007199254740992 := by
            have : u / 2 ^ d = u := by rw [hd0]; simp
            omega
          obtain ⟨h3, h4⟩ := near_0 (e := e) hL hM53 (by omega)
          rw [hs0, show e - ((0 : Nat) : Int) = e by omega, h3, h4] at hQ
          have hrup : rup u d more = M := by
            unfold rup
            rw [hd0, hmf]; simp [Nat.mod_one, hMu]
          rw [hrup, show (e + d + 1074).toNat = (e + 1074).toNat by rw [hd0]; simp]
          have : (decide (u % 2 ^ d = 0) && !more) = true := by rw [hd0, hmf]; simp [Nat.mod_one]
          rw [this]
          exact hQ
        · have hb1 : u < 2 ^ (53 + d) := by
            rw [Nat.pow_add]
            have := (Nat.div_lt_iff_lt_mul (Nat.pos_of_ne_zero (by simp) : 0 < 2 ^ d)).1 (show u / 2 ^ d < 9007199254740992 by omega)
            exact this
          have hb2 : 2 ^ (52 + d) ≤ u ∨ e + d = -1074 := by
            rcases hmin with h | h | h
            · exact absurd h hd0
            · left
              have := (Nat.le_div_iff_mul_le (Nat.pos_of_ne_zero (by simp) : 0 < 2 ^ (d - 1))).1 h
              rw [show 52 + d = 53 + (d - 1) by omega, Nat.pow_add]; exact this
            · right; omega
          obtain ⟨h3, h4⟩ := near_d hM hr hL (by omega) hb1 (by omega) hb2
          rw [h3, h4] at hQ
          have hrup : rup u d more = u / 2 ^ d + (if 2 ^ (d - 1) < u % 2 ^ d ∨ (u % 2 ^ d = 2 ^ (d - 1) ∧ (0 < r ∨ u / 2 ^ d % 2 = 1)) then 1 else 0) := by
            unfold rup; rw [hmo]; simp only [decide_eq_true_eq]
          rw [hrup]
          have : (decide (u % 2 ^ d = 0) && !more) = (decide (u % 2 ^ d = 0) && decide (r = 0)) := by
            rw [hmo]; congr 1; rw [Bool.eq_iff_iff]; simp
          rw [this]
          exact hQ
      simp (disch := omega) [-binPV_shr, -wrap_i64_at, c49L0, e1, e2, e3, e4, e5, e6, e7, e8, e9, e10, e11, f1, hw1, hq0, hed]
      refine fin ?_
      simp [NearAt, At, e1, e2, e3, e4, e5, e6, e7, e8, e9, e10, e11]
  have hu0 : ¬ u = 0 := by omega
  simp (disch := omega) [c49, hu0]
  exact go (by simp [NearAt, At])
/-- Something below every number. -/
theorem Near_zero {n : Nat} (hn : 0 < n) (neg : Bool) {Q : PV → Nat → List Nat → Prop}
    (hQ : Q (.tup [.int .u64 (sB neg 0 : Nat), .int .u8 3]) n []) : PCall Tryd.prog 49 [.bool neg, .int .u64 0, .int .i64 (-1074), .bool true] n Q := by
  refine of49 hn ?_
  have fin : ∀ {s2 : St}, NearAt neg 0 (-1074) true n 0 s2 → GO Tryd.prog c49R0 (fin Tryd.prog [.tmp 8, .tmp 9] n Q) s2 := by
    intro s2 h2
    refine Near_rest hn neg 0 0 (-1074) true (by omega) (by omega) (by omega) (by omega) (by omega) h2 ?_
    have : rup 0 0 true = 0 := by decide
    rw [this, packG_zero]
    exact hQ
  simp (disch := omega) [c49]
  refine GO_loopN (fun k s' => NearAt neg 0 (-1074) true n 0 s') 0 (by simp [NearAt, At]) ?_
  rintro k s' hs'
  obtain ⟨e1, e2, e3, e4, e5⟩ := hs'
  simp at e5
  obtain ⟨e5, e6, e7, e8, e9, e10, e11⟩ := e5
  have f1 : binPV Tryd.prog .shr 22 (.int .u64 0) (.int .i64 0) = some (.int .u64 0) := shr_nat (P := Tryd.prog) (t := 22) (k := .u64) (k' := .i64) (a := 0) (b := 0) (by rw [bits_u64]; omega)
  simp (disch := omega) [-binPV_shr, c49L0, e1, e2, e3, e4, e5, e6, e7, e8, e9, e10, e11, f1]
  refine fin ?_
  simp [NearAt, At, e1, e2, e3, e4, e5, e6, e7, e8, e9, e10, e11]
end Go.Proofs.YtdaoblhmnafllaaDoor

/-! SfG: Rounding a dyadic number, by value. -/
set_option linter.unusedVariables false
set_option linter.unusedSimpArgs false
set_option maxHeartbeats 2000000
set_option maxRecDepth 20000
namespace Go.Proofs.YtdaoblhmnafllaaDoor
open Go.Proofs

theorem small_zz {z : Int} (h : z.natAbs < 4611686018427387904) : smallE (decide (z < 0)) (dig z.natAbs) = 0 ∧ smallN (decide (z < 0)) (dig z.natAbs) = z := by
  have hs : sz z 2 := by unfold sz; omega
  have hr := rightW_Z (x := z) (by have := hs.len; omega)
  have h1 : smallE (decide (z < 0)) (dig z.natAbs) = 0 := by
    unfold smallE; rw [if_pos hr, numW_dig, if_neg (by omega)]
  refine ⟨h1, ?_⟩
  unfold smallN; rw [if_pos h1, numW_dig]
def RndAt (neg : Bool) (i : Sid) (l : List Nat) (E : Int) (bs : List (List PV)) (nx : Nat) (u : Nat) (e : Int) (more : Bool) (s : St) : Prop :=
  At s 100 ([.bool neg, .sl i 1 (u32s l), .int .i64 E] :: bs) nx [(1, .box 0 0), (6, .int .i64 e), (8, .bool more), (13, .int .u64 u)]
theorem Round_loop {n : Nat} (hn : 0 < n) {neg : Bool} {i : Sid} {l : List Nat} {E : Int} {bs : List (List PV)} {nx : Nat} (hnx : n ≤ nx) {M L : Nat} (hL : bitsL M L) {u0 s0 r0 : Nat} (hM0 : M = u0 * 2 ^ s0 + r0) (hr0 : r0 < 2 ^ s0) (hu0 : 0 < u0) (hu0' : u0 < 4611686018427387904) (h0 : s0 = 0 ∨ 9007199254740992 ≤ u0) (he0 : -100000 ≤ E ∧ E + s0 ≤ 100000) {Q : PV → Nat → List Nat → Prop}
    (hQ : ∀ n', n ≤ n' → Q (.tup [.int .u64 (sB neg (spB M E L) : Nat), .int .u8 (flg (spB M E L) (spX M E L)), .int .i64 0]) n' []) {s : St} (hs : RndAt neg i l E bs nx u0 (E + s0) (decide (0 < r0)) s) :
    GO Tryd.prog (.loop c23L0) (PExit.inBlock 0 (PExit.then (GO Tryd.prog c23R0 (fin Tryd.prog [.tmp 2, .tmp 3, .tmp 4] n Q)) (fin Tryd.prog [.tmp 2, .tmp 3, .tmp 4] n Q))) s := by
  refine GO_loopN (fun k s' => ∃ u s r : Nat, k = u ∧ M = u * 2 ^ s + r ∧ r < 2 ^ s ∧ 0 < u ∧ u < 4611686018427387904 ∧ (s = 0 ∨ 9007199254740992 ≤ u ∨ E + s ≤ -1140) ∧ E + s ≤ 100000 ∧ RndAt neg i l E bs nx u (E + s) (decide (0 < r)) s') u0 ⟨u0, s0, r0, rfl, hM0, hr0, hu0, hu0', by omega, by omega, hs⟩ ?_
  clear hs hM0 hr0 hu0 hu0' h0
  rintro k s' ⟨u, s, r, rfl, hM, hr, hu1, hu2, hc, he, hs⟩
  obtain ⟨e1, e2, e3, e4, e5⟩ := hs
  simp at e5
  obtain ⟨e5, e6, e7, e8⟩ := e5
  obtain ⟨e, hee⟩ : ∃ e : Int, e = E + s := ⟨_, rfl⟩
  rw [← hee] at e6 he
  have hEe : E = e - s := by omega
  by_cases hlt : e < -1140
  · by_cases hone : 1 < k
    · obtain ⟨v, hv⟩ : ∃ v, v = k / 2 := ⟨_, rfl⟩
      obtain ⟨o, ho⟩ : ∃ o, o = k % 2 := ⟨_, rfl⟩
      have f1 := shr_one (P := Tryd.prog) (t := 22) (a := k) (k' := .u64)
      rw [← hv] at f1
      have f2 : binPV Tryd.prog .and 22 (.int .u64 (k : Int)) (.int .u64 1) = some (.int .u64 (o : Int)) := by
        have := and_u64_lit (P := Tryd.prog) (t := 22) (a := k) (n := 1) (by omega) (by decide)
        rw [Nat.and_one_is_mod, ← ho] at this
        exact this
      have hw : IntKind.i64.wrap (e + 1) = e + 1 := wrap_i64_is rfl (by omega)
      have hr' : r + o * 2 ^ s < 2 ^ (s + 1) := by
        rw [Nat.pow_succ]
        rcases (show o = 0 ∨ o = 1 by omega) with h | h <;> rw [h] <;> omega
      have hP : 0 < 2 ^ s := Nat.pos_of_ne_zero (by simp)
      have hM' : M = v * 2 ^ (s + 1) + (r + o * 2 ^ s) := by
        rw [hM, Nat.pow_succ]
        have : k = 2 * v + o := by omega
        rw [this, Nat.add_mul, Nat.mul_comm (2 ^ s) 2, ← Nat.mul_assoc, Nat.mul_comm v 2]
        omega
      by_cases hr0 : 0 < r
      · have hm : decide (0 < r + o * 2 ^ s) = true := by simp; omega
        simp (disch := omega) [-binPV_shr, -binPV_and, c23L0, e1, e2, e3, e4, e5, e6, e7, e8, hlt, hone, f1, f2, hw, hr0]
        refine ⟨v, by omega, s + 1, r + o * 2 ^ s, hM', hr', by omega, by omega, by omega, by omega, ?_⟩
        rw [hm, show E + ((s + 1 : Nat) : Int) = e + 1 by omega]
        simp [RndAt, At, e1, e2, e3, e4, e5, e6, e7, e8]
      · by_cases ho1 : o = 1
        · have hm : decide (0 < r + o * 2 ^ s) = true := by rw [ho1]; simp; omega
          simp (disch := omega) [-binPV_shr, -binPV_and, c23L0, e1, e2, e3, e4, e5, e6, e7, e8, hlt, hone, f1, f2, hw, hr0, ho1]
          refine ⟨v, by omega, s + 1, r + o * 2 ^ s, hM', hr', by omega, by omega, by omega, by omega, ?_⟩
          rw [hm, show E + ((s + 1 : Nat) : Int) = e + 1 by omega]
          simp [RndAt, At, e1, e2, e3, e4, e5, e6, e7, e8]
        · have ho0 : o = 0 := by omega
          have hm : decide (0 < r + o * 2 ^ s) = false := by rw [ho0]; simp; omega
          simp (disch := omega) [-binPV_shr, -binPV_and, c23L0, e1, e2, e3, e4, e5, e6, e7, e8, hlt, hone, f1, f2, hw, hr0, ho0]
          refine ⟨v, by omega, s + 1, r + o * 2 ^ s, hM', hr', by omega, by omega, by omega, by omega, ?_⟩
          rw [hm, show E + ((s + 1 : Nat) : Int) = e + 1 by omega]
          simp [RndAt, At, e1, e2, e3, e4, e5, e6, e7, e8]
    · obtain ⟨h3, h4⟩ := near_63 (e := e) hM hr hL hu2 (by omega)
      have hQ := hQ
      rw [hEe, h3, h4] at hQ
      simp (disch := omega) [c23L0, c23R0, e1, e2, e3, e4, e5, e6, e7, e8, hlt, hone]
      refine CallK.of (by simp) (Near_zero (by omega) neg ?_)
      have := hQ nx hnx
      rw [show flg 0 false = 3 by decide] at this
      simpa (disch := omega) [e1, e2, e3, e4, e5, e6, e7, e8] using ⟨hnx, this⟩
  · have hQ := hQ
    rw [hEe] at hQ
    simp (disch := omega) [c23L0, c23R0, e1, e2, e3, e4, e5, e6, e7, e8, hlt]
    refine CallK.of (by simp) (Near_call (by omega) neg k s r M L e hu1 hu2 hM hr hL (by omega) (by omega) ?_)
    have := hQ nx hnx
    simpa (disch := omega) [e1, e2, e3, e4, e5, e6, e7, e8] using ⟨hnx, this⟩
theorem Round_call {n : Nat} (hn : 0 < n) (neg : Bool) (i : Sid) (hi : i.f < n) (l : List Nat) (E : Int) (hl : l.length < 35184372088800) (ll : Lim l) {Q : PV → Nat → List Nat → Prop}
    (hf : rightD neg l E = false → Q (.tup [.int .u64 0, .int .u8 0, .int .i64 1]) n [])
    (h0 : rightD neg l E = true → l = [] → ∀ n', n ≤ n' → Q (.tup [.int .u64 0, .int .u8 0, .int .i64 0]) n' [])
    (hQ : rightD neg l E = true → l ≠ [] → ∀ n', n ≤ n' → Q (.tup [.int .u64 (sB neg (spB (val l) E (lenW l)) : Nat), .int .u8 (flg (spB (val l) E (lenW l)) (spX (val l) E (lenW l))), .int .i64 0]) n' []) : PCall Tryd.prog 23 [D neg i l E] n Q := by
  refine of23 hn ?_
  simp (disch := omega) [c23]
  refine CallK.of (by simp) (CheckD_call hn neg i l E hl ll ?_)
  cases hr : rightD neg l E
  · have := hf hr
    simpa (disch := omega) [hr] using this
  · obtain ⟨x, rfl, rfl, hx, hE1, hE2, hM, hz, hodd⟩ := rightD_Z hr ll
    have h0 := h0 hr
    have hQ := hQ hr
    simp (disch := omega) [hr]
    refine CallK.of (by simp) (Len_call hn _ i _ hl ll ?_)
    have hLs := lenW_small hx
    obtain ⟨L, hL⟩ : ∃ L, L = lenW (dig x.natAbs) := ⟨_, rfl⟩
    rw [← hL] at hLs hQ
    rw [← hL]
    by_cases hx0 : x = 0
    · subst hx0
      have hd : dig (0 : Int).natAbs = [] := dig_zero
      have hL0 : L = 0 := by rw [hL, hd]; rfl
      rw [hL0]
      have hd0 : dig 0 = [] := dig_zero
      simp (disch := omega) [hd0]
      refine CallK.of (by simp) (Small_call hn _ _ [] (by simp) (by intro w h; cases h) ?_)
      have k1 : smallE false [] = 0 := by decide
      have k2 : smallN false [] = 0 := by decide
      rw [k1, k2]
      have := h0 hd n (by omega)
      simpa (disch := omega) [] using this
    · have hne := (dig_ne hx0).2
      have hQ := hQ hne
      have hbits := lenZ_bits hx0
      rw [← hL] at hbits
      rw [val_dig] at hQ
      obtain ⟨M, hMe⟩ : ∃ M, M = x.natAbs := ⟨_, rfl⟩
      have hb : bitsL M L := by rw [hMe]; exact hbits
      have hodd := hodd hx0
      rw [← hMe] at hQ hodd
      have fin : ∀ (z : Int), z.natAbs < 4611686018427387904 → smallE (decide (z < 0)) (dig z.natAbs) = 0 ∧ smallN (decide (z < 0)) (dig z.natAbs) = z := fun z h => small_zz h
      by_cases hL62 : 62 < L
      · obtain ⟨t, ht⟩ : ∃ t, t = L - 62 := ⟨_, rfl⟩
        obtain ⟨b, hbb⟩ : ∃ b : Int, b = 62 - L := ⟨_, rfl⟩
        have hw1 : IntKind.i64.wrap (62 - (L : Int)) = b := wrap_i64_is (by omega) (by omega)
        have hw2 : IntKind.i64.wrap (E + IntKind.i64.wrap ((L : Int) - 62)) = E + t := by
          rw [wrap_i64_is (x := (L : Int) - 62) (y := t) (by omega) (by omega)]; exact wrap_i64_is rfl (by omega)
        obtain ⟨z, hzz⟩ : ∃ z, z = shZ x b := ⟨_, rfl⟩
        have hza : z.natAbs = M / 2 ^ t := by
          rw [hzz, shZ_abs, if_neg (by omega), hMe, show (-b).toNat = t by omega]
        have hlo : 2305843009213693952 ≤ M / 2 ^ t := by
          rw [Nat.le_div_iff_mul_le (Nat.pos_of_ne_zero (by simp))]
          have := hb.2
          rw [show L = 62 + t by omega, Nat.pow_add] at this
          omega
        have hhi : M / 2 ^ t < 4611686018427387904 := by
          rw [Nat.div_lt_iff_lt_mul (Nat.pos_of_ne_zero (by simp))]
          have := hb.1
          rw [show L = 62 + t by omega, Nat.pow_add] at this
          exact this
        have hzs : sz z 512 := (show sz z 2 by unfold sz; omega).mono (by omega)
        have hsm := fin z (by omega)
        simp (disch := omega) [-wrap_i64_at, hL62, hw1, hw2]
        refine CallK.of (by simp) (Shift_Z hn x z b i hx hzz.symm hzs (by omega) fun i1 n1 g1 d1 => ?_)
        simp (disch := omega) [-wrap_i64_at, g1, hw1, hw2]
        refine CallK.of (by simp) (Small_call (by omega) _ i1 _ (by have := hzs.len; omega) (Lim.dig _) ?_)
        rw [hsm.1, hsm.2]
        obtain ⟨u, hu⟩ : ∃ u, u = M / 2 ^ t := ⟨_, rfl⟩
        rw [← hu] at hza hlo hhi
        have hP : 0 < 2 ^ t := Nat.pos_of_ne_zero (by simp)
        have hMd : M = u * 2 ^ t + M % 2 ^ t := by rw [hu, Nat.mul_comm]; exact (Nat.div_add_mod M (2 ^ t)).symm
        have hMr : M % 2 ^ t < 2 ^ t := Nat.mod_lt _ hP
        have hM2 : M % 2 = 1 := by
          rcases Nat.mod_two_eq_zero_or_one M with h | h
          · rw [tz_even (by omega) h] at hodd; omega
          · exact h
        have hr0 : 0 < M % 2 ^ t := by
          rcases Nat.eq_zero_or_pos (M % 2 ^ t) with h | h
          · have : M % 2 ^ t % 2 = M % 2 := Nat.mod_mod_of_dvd M ⟨2 ^ (t - 1), by rw [← Nat.pow_succ']; congr 1; omega⟩
            omega
          · exact h
        have hu0 : ¬ u = 0 := by omega
        have hloop := fun (s : St) => @Round_loop n hn (decide (x < 0)) i (dig x.natAbs) E [[.bool (decide (z < 0)), .sl i1 1 (u32s (dig z.natAbs))], [.bool (decide (z < 0)), .sl i1 1 (u32s (dig z.natAbs))]] n1 (by omega) M L hb u t (M % 2 ^ t) hMd hMr (by omega) hhi (.inr (by omega)) (by omega) Q hQ s
        rw [show decide (0 < M % 2 ^ t) = true by simpa using hr0] at hloop
        by_cases hz0 : z < 0
        · have hneg : IntKind.i64.wrap (-z) = (u : Int) := wrap_i64_is (by omega) (by omega)
          simp (disch := omega) [-wrap_i64_at, hz0, hneg, hu0, hw1, hw2]
          refine hloop _ ?_
          simp [RndAt, At, hz0]
        · have hzu : z = (u : Int) := by omega
          simp (disch := omega) [-wrap_i64_at, hz0, hu0, hw1, hw2]
          rw [hzu] at hloop ⊢
          have hun : ¬ (u : Int) < 0 := by omega
          simp (disch := omega) [-wrap_i64_at, hu0, hw1, hw2]
          refine hloop _ ?_
          simp [RndAt, At, hun]
      · have hhi : M < 4611686018427387904 := by
          have h1 := hb.1
          have : 2 ^ L ≤ 2 ^ 62 := Nat.pow_le_pow_right (by omega) (by omega)
          omega
        have hsm := fin x (by omega)
        simp (disch := omega) [hL62]
        refine CallK.of (by simp) (Small_call (by omega) _ i _ (by omega) (Lim.dig _) ?_)
        rw [hsm.1, hsm.2]
        have hM0 : 0 < M := by omega
        have hu0 : ¬ M = 0 := by omega
        have hloop := fun (s : St) => @Round_loop n hn (decide (x < 0)) i (dig x.natAbs) E [[.bool (decide (x < 0)), .sl i 1 (u32s (dig x.natAbs))]] n (by omega) M L hb M 0 0 (by simp) (by simp) hM0 hhi (.inl rfl) (by omega) Q hQ s
        simp only [Int.natCast_zero, Int.add_zero, Nat.lt_irrefl, decide_false] at hloop
        by_cases hz0 : x < 0
        · have hneg : IntKind.i64.wrap (-x) = (M : Int) := wrap_i64_is (by omega) (by omega)
          simp (disch := omega) [-wrap_i64_at, hz0, hneg, hu0]
          refine hloop _ ?_
          simp [RndAt, At, hz0]
        · have hzu : x = (M : Int) := by omega
          have hwu : IntKind.u64.wrap x = (M : Int) := by rw [hzu]; exact wrap_u64_nat _ (by omega)
          simp (disch := omega) [-wrap_i64_at, -wrap_u64_at, hz0, hu0, hwu]
          refine hloop _ ?_
          simp [RndAt, At, hz0]
end Go.Proofs.YtdaoblhmnafllaaDoor

/-! SfH: The laws of layer 4, by value: awake, kinds, values. -/
set_option linter.unusedVariables false
set_option linter.unusedSimpArgs false
set_option maxHeartbeats 2000000
set_option maxRecDepth 20000
namespace Go.Proofs.YtdaoblhmnafllaaDoor
open Go.Proofs

theorem one_val : valZ 4607182418800017408 = 4503599627370496 ∧ expo 4607182418800017408 = -52 ∧ finB 4607182418800017408 = true := by decide
theorem one_tz : tz 4503599627370496 = 52 := tz_mul 52 (o := 1) (by decide)
theorem one_dyM : dyM 4503599627370496 = 1 := by
  unfold dyM; rw [if_neg (by omega), show (4503599627370496 : Int).natAbs = 4503599627370496 from rfl, one_tz]; decide
theorem one_dyE : dyE 4503599627370496 (-52) = 0 := by
  unfold dyE; rw [if_neg (by omega), show (4503599627370496 : Int).natAbs = 4503599627370496 from rfl, one_tz]; decide
theorem one_dig : dig 1 = [1] := by rw [dig_pos (by omega)]; simp [dig_zero]
theorem one_right : rightD false [1] 0 = true := by decide
theorem one_round : spB (val [1]) 0 (lenW [1]) = 4607182418800017408 ∧ flg 4607182418800017408 (spX (val [1]) 0 (lenW [1])) = 0 := by
  have h1 : val [1] = 1 := by decide
  have h2 : lenW [1] = 1 := by decide
  rw [h1, h2]
  constructor
  · unfold spB rnd pexp packR; decide
  · unfold spX pexp; decide
theorem awake_call {n : Nat} (hn : 0 < n) {Q : PV → Nat → List Nat → Prop} (hQ : ∀ n', n ≤ n' → Q (.bool true) n' []) : PCall Tryd.prog 18 [] n Q := by
  refine of18 hn ?_
  simp (disch := omega) [c18]
  obtain ⟨h1, h2, h3⟩ := one_val
  refine CallK.of (by simp) (Value_call hn 4607182418800017408 (by omega) (fun h => by rw [h3] at h; cases h) (fun _ i n1 g1 d1 => ?_))
  rw [h1, h2, one_dyM, one_dyE, show (1 : Int).natAbs = 1 from rfl, one_dig]
  simp (disch := omega) [g1]
  refine CallK.of (by simp) (Round_call (by omega) false i (newSid_lt d1 (by omega)) [1] 0 (by simp) (by intro w hw; simp at hw; omega) (fun h => by rw [one_right] at h; cases h) (fun _ h => by cases h) (fun _ _ n2 g2 => ?_))
  rw [one_round.1, one_round.2, sB_false]
  simp (disch := omega) [g1, g2]
  refine CallK.of (by simp) (Kind_call (by omega) 9221120237041090560 (by omega) ?_)
  have hk : kindB 9221120237041090560 = 4 := by decide
  rw [hk]
  have := hQ n2 (by omega)
  simpa (disch := omega) [] using ⟨by omega, this⟩
end Go.Proofs.YtdaoblhmnafllaaDoor

/-! SfI: The laws of layer 4, by value: kinds, values, back. -/
set_option linter.unusedVariables false
set_option linter.unusedSimpArgs false
set_option maxHeartbeats 2000000
set_option maxRecDepth 20000
namespace Go.Proofs.YtdaoblhmnafllaaDoor
open Go.Proofs

theorem Kinds_call {n : Nat} (hn : 0 < n) (b : Nat) (hb : b < 18446744073709551616) : PCall Tryd.prog 3 [.int .u64 b] n (fun v _ D => v = .bool true ∧ D = []) := by
  refine of3 hn ?_
  simp (disch := omega) [c3]
  refine CallK.of (by simp) (Kind_call hn b hb ?_)
  simp (disch := omega) []
  refine CallK.of (by simp) (RefKindB_call hn b hb ?_)
  simp (disch := omega) []
  refine CallK.of (by simp) (Sign_call hn b hb ?_)
  simp (disch := omega) []
  refine CallK.of (by simp) (RefNegB_call hn b hb ?_)
  simp (disch := omega) []
  refine CallK.of (by simp) (Finite_call hn b hb ?_)
  simp (disch := omega) []
  refine CallK.of (by simp) (RefFiniteB_call hn b hb ?_)
  simp (disch := omega) []
  refine CallK.of (by simp) (Minus_call hn b hb ?_)
  simp (disch := omega) []
  refine CallK.of (by simp) (RefMinus_call hn b hb ?_)
  simp (disch := omega) []
  refine CallK.of (by simp) (awake_call hn fun n' g => ?_)
  (simp (disch := omega) [g] <;> omega)
theorem Values_call {n : Nat} (hn : 0 < n) (b : Nat) (hb : b < 18446744073709551616) : PCall Tryd.prog 4 [.int .u64 b] n (fun v _ D => v = .bool true ∧ D = []) := by
  refine of4 hn ?_
  simp (disch := omega) [c4]
  refine CallK.of (by simp) (Value_call hn b hb (fun hf => ?_) (fun hf i n1 g1 d1 => ?_))
  · simp (disch := omega) []
    refine CallK.of (by simp) (RefFiniteB_call hn b hb ?_)
    simp (disch := omega) [hf]
    refine CallK.of (by simp) (SameD_call hn false false ⟨0, 0, 0⟩ ⟨0, 0, 0⟩ [] [] 0 0 (by simp) ?_)
    simp (disch := omega) []
    refine CallK.of (by simp) (awake_call hn fun n' g => ?_)
    (simp (disch := omega) [g] <;> omega)
  · have hl : (dig (dyM (valZ b)).natAbs).length ≤ 2 := (sz_dyM (sz_val b)).len
    simp (disch := omega) [g1]
    refine CallK.of (by simp) (RefFiniteB_call (by omega) b hb ?_)
    simp (disch := omega) [hf, g1]
    refine CallK.of (by simp) (RefValue_call (by omega) b hb fun i2 n2 g2 => ?_)
    simp (disch := omega) [g1, g2]
    refine CallK.of (by simp) (SameD_call (by omega) _ _ i i2 _ _ _ _ (by omega) ?_)
    simp (disch := omega) [g1, g2]
    refine CallK.of (by simp) (awake_call (by omega) fun n' g => ?_)
    (simp (disch := omega) [g, g1, g2] <;> omega)
theorem low_fields (b : Nat) : b % 9223372036854775808 = 4503599627370496 * bP b + bF b := by
  have := Nat.mod_mul (x := b) (a := 4503599627370496) (b := 2048)
  unfold bP bF
  rw [Nat.add_comm]; exact this
theorem pack_fields (p f : Nat) (h0 : p ≠ 0) (hp : p < 2047) (hf : f < 4503599627370496) : packR (f + 4503599627370496) (p - 1) = 4503599627370496 * p + f := by
  unfold packR
  obtain ⟨p', rfl⟩ : ∃ p', p = p' + 1 := ⟨p - 1, by omega⟩
  rw [Nat.add_sub_cancel]
  omega
theorem pack_low (f : Nat) (hf : f < 4503599627370496) : packR f 0 = 4503599627370496 * 0 + f := by unfold packR; omega
theorem back_bits {b : Nat} (hb : b < 18446744073709551616) (hf : finB b = true) (hz : valZ b ≠ 0) : spB (dyM (valZ b)).natAbs (dyE (valZ b) (expo b)) (lenW (dig (dyM (valZ b)).natAbs)) = b % 9223372036854775808 ∧ spX (dyM (valZ b)).natAbs (dyE (valZ b) (expo b)) (lenW (dig (dyM (valZ b)).natAbs)) = true := by
  have hza := valZ_abs b
  have hm := mant_lt b
  have hpb := bP_le b
  have hfb := bF_lt b
  obtain ⟨o, h1, h2, h3⟩ := dyM_abs hz
  have hdz : dyM (valZ b) ≠ 0 := by intro h; rw [h] at h3; simp at h3; omega
  have hbits := lenZ_bits hdz
  rw [h3] at hbits ⊢
  have hE : dyE (valZ b) (expo b) = expo b + (tz (valZ b).natAbs : Nat) := by unfold dyE; rw [if_neg hz]
  rw [hE]
  rw [hza] at h2 ⊢
  obtain ⟨k, hk⟩ : ∃ k, k = tz (mant b) := ⟨_, rfl⟩
  obtain ⟨L, hL⟩ : ∃ L, L = lenW (dig o) := ⟨_, rfl⟩
  rw [← hk] at h2 ⊢
  rw [← hL] at hbits ⊢
  have hP : 0 < 2 ^ k := Nat.pos_of_ne_zero (by simp)
  have hLk : bitsL (mant b) (L + k) := by
    rw [h2, Nat.mul_comm]
    refine ⟨?_, ?_⟩
    · rw [Nat.pow_add]; exact Nat.mul_lt_mul_of_pos_right hbits.1 hP
    · rw [Nat.pow_add, ← Nat.mul_assoc]; exact Nat.mul_le_mul_right _ hbits.2
  have hfin : bP b < 2047 := by unfold finB at hf; simpa using hf
  have hp : pexp L (expo b + (k : Int)) = expo b := by
    unfold pexp
    by_cases h0 : bP b = 0
    · have he : expo b = -1074 := by unfold expo; rw [if_pos h0]
      have hmm : mant b < 2 ^ 52 := by unfold mant; rw [if_pos h0]; omega
      have := bitsL_le hLk hmm
      rw [he, if_pos (by omega)]
    · have he : expo b = (bP b : Int) - 1075 := by unfold expo; rw [if_neg h0]
      have hmm : 2 ^ 52 ≤ mant b := by unfold mant; rw [if_neg h0]; omega
      have h5 := bitsL_ge hLk hmm
      have h6 : L + k ≤ 53 := bitsL_le hLk (by omega)
      split <;> omega
  constructor
  · unfold spB
    rw [hp, rnd, if_pos (by omega), show (-(expo b - (expo b + (k : Int)))).toNat = k by omega, Nat.mul_comm, ← h2]
    rw [low_fields]
    by_cases h0 : bP b = 0
    · have he : expo b = -1074 := by unfold expo; rw [if_pos h0]
      have hmm : mant b = bF b := by unfold mant; rw [if_pos h0]
      rw [he, hmm, show ((-1074 : Int) + 1074).toNat = 0 from rfl, h0]
      exact pack_low _ hfb
    · have he : expo b = (bP b : Int) - 1075 := by unfold expo; rw [if_neg h0]
      have hmm : mant b = bF b + 4503599627370496 := by unfold mant; rw [if_neg h0]
      rw [he, hmm, show ((bP b : Int) - 1075 + 1074).toNat = bP b - 1 by omega]
      exact pack_fields _ _ h0 hfin hfb
  · unfold spX
    rw [hp]; simp only [decide_eq_true_eq]; left; omega
theorem Back_call {n : Nat} (hn : 0 < n) (b : Nat) (hb : b < 18446744073709551616) : PCall Tryd.prog 6 [.int .u64 b] n (fun v _ D => v = .bool true ∧ D = []) := by
  refine of6 hn ?_
  simp (disch := omega) [c6]
  refine CallK.of (by simp) (Value_call hn b hb (fun hf => ?_) (fun hf i n1 g1 d1 => ?_))
  · simp (disch := omega) []
    refine CallK.of (by simp) (RefFiniteB_call hn b hb ?_)
    simp (disch := omega) [hf]
    refine CallK.of (by simp) (awake_call hn fun n' g => ?_)
    (simp (disch := omega) [g] <;> omega)
  · have hsz := sz_dyM (sz_val b)
    have hl : (dig (dyM (valZ b)).natAbs).length ≤ 2 := hsz.len
    have hr := rightD_V (L := expo b) ((sz_val b).mono (by omega)) (dyOk_val b)
    simp (disch := omega) [g1]
    by_cases hz : valZ b = 0
    · have hd : dyM (valZ b) = 0 := by rw [hz]; rfl
      have hm0 : mant b = 0 := by have := valZ_abs b; omega
      have hb0 : b = 9223372036854775808 ∨ b = 0 := by
        unfold mant bP bF at hm0
        split at hm0 <;> omega
      refine CallK.of (by simp) (Round_call (by omega) _ i (newSid_lt d1 (by omega)) _ _ (by omega) (Lim.dig _) (fun h => by rw [hr] at h; cases h) (fun _ _ n2 g2 => ?_) (fun _ h => absurd (by rw [hd]; exact dig_zero) h))
      rcases hb0 with h | h
      · subst h
        simp (disch := omega) [g1, g2]
        refine CallK.of (by simp) (awake_call (by omega) fun n' g => ?_)
        (simp (disch := omega) [g, g1, g2] <;> omega)
      · subst h
        simp (disch := omega) [g1, g2]
        refine CallK.of (by simp) (awake_call (by omega) fun n' g => ?_)
        (simp (disch := omega) [g, g1, g2] <;> omega)
    · obtain ⟨h1, h2⟩ := back_bits hb hf hz
      have hdz : dyM (valZ b) ≠ 0 := by
        obtain ⟨o, k1, k2, k3⟩ := dyM_abs hz
        intro h; rw [h] at k3; simp at k3; omega
      have hdn := (dig_ne hdz).2
      refine CallK.of (by simp) (Round_call (by omega) _ i (newSid_lt d1 (by omega)) _ _ (by omega) (Lim.dig _) (fun h => by rw [hr] at h; cases h) (fun _ h => absurd h hdn) (fun _ _ n2 g2 => ?_))
      rw [val_dig, h1, h2]
      have hm0 : mant b ≠ 0 := by have := valZ_abs b; omega
      have hng : decide (dyM (valZ b) < 0) = bN b := by
        have h5 : dyM (valZ b) = shZ (valZ b) (-(tz (valZ b).natAbs : Int)) := by unfold dyM; rw [if_neg hz]
        have h6 := shZ_sign (valZ b) (-(tz (valZ b).natAbs : Int)) (by rw [← h5]; omega)
        rw [h5, ← h6, valZ_neg]; simp [hm0]
      have hfin : bP b < 2047 := by unfold finB at hf; simpa using hf
      have hsb : sB (bN b) (b % 9223372036854775808) = b := by
        have h7 : ¬ 9223372036854775808 ≤ b % 9223372036854775808 := by omega
        unfold sB mB bN
        by_cases h : 9223372036854775808 ≤ b
        · simp only [h, h7, decide_true, decide_false, if_true, Bool.false_eq_true, if_false]; omega
        · simp only [h, decide_false, Bool.false_eq_true, if_false]; omega
      have hfl : flg (b % 9223372036854775808) true = 0 := by
        unfold flg; rw [if_neg, if_pos rfl]
        unfold bP at hfin; omega
      have hnz : ¬ b = 9223372036854775808 := by
        intro h; subst h; exact hm0 (by decide)
      rw [hng, hsb, hfl]
      simp (disch := omega) [g1, g2, hnz]
      refine CallK.of (by simp) (awake_call (by omega) fun n' g => ?_)
      (simp (disch := omega) [g, g1, g2] <;> omega)
end Go.Proofs.YtdaoblhmnafllaaDoor
