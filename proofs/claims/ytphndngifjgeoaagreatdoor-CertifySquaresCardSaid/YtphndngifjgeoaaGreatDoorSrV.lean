/- Several texts as one: SfM, SrZ, SrB, SrC, SnZ. -/
import Derived.Test.YtphndngifjgeoaaGreatDoorDyV
import Derived.Test.YtphndngifjgeoaaGreatDoorBiA
/-! SfM: Several texts as one: SfA, SfB, SfC, SfD, SfE, SfF, SfG, SfH, SfI. -/
/-! SfA: A number of binary64 by its bits: fields, kinds, signs, by value. -/
set_option linter.unusedVariables false
set_option linter.unusedSimpArgs false
namespace Go.Proofs.YtphndngifjgeoaaGreatDoor
open Go.Proofs

def bN (b : Nat) : Bool := decide (9223372036854775808 ≤ b)
def bP (b : Nat) : Nat := b / 4503599627370496 % 2048
def bF (b : Nat) : Nat := b % 4503599627370496
theorem bP_le (b : Nat) : bP b ≤ 2047 := by unfold bP; omega
theorem bF_lt (b : Nat) : bF b < 4503599627370496 := by unfold bF; omega
theorem and_mask (x k : Nat) : x &&& (2 ^ k - 1) = x % 2 ^ k := Nat.and_two_pow_sub_one_eq_mod x k
theorem sign_bits {P : Program} {t u : TypeId} {b : Nat} (hb : b < 18446744073709551616) : ∃ q : Nat, binPV P .shr t (.int .u64 (b : Int)) (.int .u64 63) = some (.int .u64 (q : Int)) ∧ binPV P .eql u (.int .u64 (q : Int)) (.int .u64 1) = some (.bool (bN b)) := by
  refine ⟨b / 9223372036854775808, by have := shr_nat_lit (P := P) (t := t) (k := .u64) (k' := .u64) (a := b) (n := 63) (by decide); exact this, ?_⟩
  rw [binPV_eql]
  congr 2
  unfold bN
  rw [Bool.eq_iff_iff]
  simp
  omega
theorem power_bits {P : Program} {t u : TypeId} {b : Nat} (hb : b < 18446744073709551616) : ∃ q : Nat, binPV P .shr t (.int .u64 (b : Int)) (.int .u64 52) = some (.int .u64 (q : Int)) ∧ binPV P .and u (.int .u64 (q : Int)) (.int .u64 2047) = some (.int .u64 (bP b : Nat)) := by
  refine ⟨b / 4503599627370496, by have := shr_nat_lit (P := P) (t := t) (k := .u64) (k' := .u64) (a := b) (n := 52) (by decide); exact this, ?_⟩
  have := and_u64_lit (P := P) (t := u) (a := b / 4503599627370496) (n := 2047) (by omega) (by decide)
  rw [show b / 4503599627370496 &&& 2047 = bP b from and_mask _ 11] at this
  exact this
theorem frac_bits {P : Program} {u : TypeId} {b : Nat} (hb : b < 18446744073709551616) : binPV P .and u (.int .u64 (b : Int)) (.int .u64 4503599627370495) = some (.int .u64 (bF b : Nat)) := by
  have := and_u64_lit (P := P) (t := u) (a := b) (n := 4503599627370495) (by omega) (by decide)
  rw [show b &&& 4503599627370495 = bF b from and_mask _ 52] at this
  exact this
theorem Split_call {n : Nat} (hn : 0 < n) (b : Nat) (hb : b < 18446744073709551616) {Q : PV → Nat → List Nat → Prop} (hQ : Q (.agg [.bool (bN b), .int .i64 (bP b : Nat), .int .u64 (bF b : Nat)]) n []) : PCall Tryz.prog 66 [.int .u64 b] n Q := by
  refine of66 hn ?_
  obtain ⟨q, h1, h2⟩ := sign_bits (P := Tryz.prog) (t := 49) (u := 49) hb
  obtain ⟨r, h3, h4⟩ := power_bits (P := Tryz.prog) (t := 49) (u := 49) hb
  have h5 := frac_bits (P := Tryz.prog) (u := 48) hb
  have := bP_le b
  simpa (disch := omega) [-binPV_shr, -binPV_and, -binPV_eql, c66, h1, h2, h3, h4, h5] using hQ
theorem eqFields53 (a a' : Bool) (p p' f f' : Int) : binPV Tryz.prog .eql 91 (.agg [.bool a, .int .i64 p, .int .u64 f]) (.agg [.bool a', .int .i64 p', .int .u64 f']) = some (.bool (a == a' && (p == p' && f == f'))) := by
  have h1 : Tryz.prog.stoodInHeld 53 = false := by kernel_rfl
  have h2 : Tryz.prog.eqGuardType Tryz.prog.depth 53 = false := by kernel_rfl
  simp only [binPV, eqAggV, Tryz.underlying91, h1, h2, and_self, if_true]
  simp [eqFieldsV, Tryz.underlying4, Tryz.underlying3, Tryz.underlying48]
  cases h3 : a == a' <;> cases h4 : p == p' <;> cases h5 : f == f' <;> simp_all
def kindB (b : Nat) : Int := if bP b = 2047 then (if bF b = 0 then 3 else 4) else if 0 < bP b then 2 else if 0 < bF b then 1 else 0
theorem Kind_call {n : Nat} (hn : 0 < n) (b : Nat) (hb : b < 18446744073709551616) {Q : PV → Nat → List Nat → Prop} (hQ : Q (.int .i64 (kindB b)) n []) : PCall Tryz.prog 43 [.int .u64 b] n Q := by
  refine of43 hn ?_
  simp (disch := omega) [c43]
  refine CallK.of (by simp) (Split_call hn b hb ?_)
  obtain ⟨p, hp⟩ : ∃ p, p = bP b := ⟨_, rfl⟩
  obtain ⟨f, hf⟩ : ∃ f, f = bF b := ⟨_, rfl⟩
  unfold kindB at hQ
  rw [← hp, ← hf] at hQ
  rw [← hp, ← hf]
  by_cases h1 : p = 2047
  · subst h1
    by_cases h2 : f = 0
    · subst h2
      simp at hQ
      simpa (disch := omega) [eqFields53] using hQ
    · simp [h2] at hQ
      simpa (disch := omega) [eqFields53, h2] using hQ
  · by_cases h3 : 0 < p
    · simp [h1, h3] at hQ
      simpa (disch := omega) [eqFields53, h1, h3] using hQ
    · by_cases h4 : 0 < f
      · simp [h1, h3, h4] at hQ
        simpa (disch := omega) [eqFields53, h1, h3, h4] using hQ
      · simp [h1, h3, h4] at hQ
        simpa (disch := omega) [eqFields53, h1, h3, h4] using hQ
theorem Sign_call {n : Nat} (hn : 0 < n) (b : Nat) (hb : b < 18446744073709551616) {Q : PV → Nat → List Nat → Prop} (hQ : Q (.bool (bN b)) n []) : PCall Tryz.prog 59 [.int .u64 b] n Q := by
  refine of59 hn ?_
  obtain ⟨q, h1, h2⟩ := sign_bits (P := Tryz.prog) (t := 49) (u := 49) hb
  simpa (disch := omega) [-binPV_shr, -binPV_eql, c59, h1, h2] using hQ
def finB (b : Nat) : Bool := decide (bP b < 2047)
theorem Finite_call {n : Nat} (hn : 0 < n) (b : Nat) (hb : b < 18446744073709551616) {Q : PV → Nat → List Nat → Prop} (hQ : Q (.bool (finB b)) n []) : PCall Tryz.prog 20 [.int .u64 b] n Q := by
  refine of20 hn ?_
  simp (disch := omega) [c20]
  refine CallK.of (by simp) (Kind_call hn b hb ?_)
  have hp := bP_le b
  unfold finB at hQ
  unfold kindB
  by_cases h1 : bP b = 2047
  · by_cases h2 : bF b = 0
    · simp [h1] at hQ
      simpa (disch := omega) [h1, h2] using hQ
    · simp [h1] at hQ
      simpa (disch := omega) [h1, h2] using hQ
  · have h5 : bP b < 2047 := by omega
    by_cases h3 : 0 < bP b
    · simp [h5] at hQ
      simpa (disch := omega) [h1, h3] using hQ
    · by_cases h4 : 0 < bF b
      · simp [h5] at hQ
        simpa (disch := omega) [h1, h3, h4] using hQ
      · simp [h5] at hQ
        simpa (disch := omega) [h1, h3, h4] using hQ
/-- The number with the other sign. -/
def mB (b : Nat) : Nat := if bN b then b - 9223372036854775808 else b + 9223372036854775808
theorem xor_top {x : Nat} (h : x < 9223372036854775808) : x ^^^ 9223372036854775808 = x + 9223372036854775808 := by
  apply Nat.eq_of_testBit_eq
  intro i
  rw [Nat.testBit_xor, show (9223372036854775808 : Nat) = 2 ^ 63 by decide, Nat.testBit_two_pow, Nat.add_comm]
  by_cases hi : 63 = i
  · subst hi
    rw [Nat.testBit_two_pow_add_eq]; simp
  · by_cases hlt : i < 63
    · rw [Nat.testBit_two_pow_add_gt hlt]; simp [hi]
    · have h1 : x.testBit i = false := Nat.testBit_lt_two_pow (Nat.lt_of_lt_of_le (show x < 2 ^ 63 by omega) (Nat.pow_le_pow_right (by omega) (by omega)))
      have h2 : (2 ^ 63 + x).testBit i = false := Nat.testBit_lt_two_pow (Nat.lt_of_lt_of_le (show 2 ^ 63 + x < 2 ^ 64 by omega) (Nat.pow_le_pow_right (by omega) (by omega)))
      rw [h1, h2]; simp [hi]
theorem xor_sign {b : Nat} (hb : b < 18446744073709551616) : b ^^^ 9223372036854775808 = mB b := by
  unfold mB bN
  by_cases h : 9223372036854775808 ≤ b
  · have h1 := xor_top (x := b - 9223372036854775808) (by omega)
    rw [show b - 9223372036854775808 + 9223372036854775808 = b by omega] at h1
    simp only [h, decide_true, if_true]
    have h2 := congrArg (· ^^^ 9223372036854775808) h1
    simp only [Nat.xor_assoc, Nat.xor_self, Nat.xor_zero] at h2
    exact h2.symm
  · simp only [h, decide_false, Bool.false_eq_true, if_false]
    exact xor_top (by omega)
theorem mB_lt {b : Nat} (hb : b < 18446744073709551616) : mB b < 18446744073709551616 := by
  unfold mB bN; split
  · omega
  · rename_i h; simp at h; omega
theorem xor_u64 {P : Program} {t : TypeId} {a b : Nat} (ha : a < 18446744073709551616) (hb : b < 18446744073709551616) : binPV P .xor t (.int .u64 (a : Int)) (.int .u64 (b : Int)) = some (.int .u64 ((a ^^^ b : Nat) : Int)) := by
  have := Nat.xor_lt_two_pow (show a < 2 ^ 64 by omega) (show b < 2 ^ 64 by omega)
  rw [binPV_xor, bits_u64, ofInt_nat, ofInt_nat, BitVec.toNat_xor, BitVec.toNat_ofNat, BitVec.toNat_ofNat, Nat.mod_eq_of_lt (show a < 2 ^ 64 by omega), Nat.mod_eq_of_lt (show b < 2 ^ 64 by omega), wrap_u64_nat _ (by omega)]
/-! ### the document's -/
theorem tmod_nat (a b : Nat) : (a : Int).tmod (b : Int) = ((a % b : Nat) : Int) := (Int.ofNat_tmod a b).symm
theorem tdiv_nat (a b : Nat) : (a : Int).tdiv (b : Int) = ((a / b : Nat) : Int) := (Int.ofNat_tdiv a b).symm
theorem RefNegB_call {n : Nat} (hn : 0 < n) (b : Nat) (hb : b < 18446744073709551616) {Q : PV → Nat → List Nat → Prop} (hQ : Q (.bool (bN b)) n []) : PCall Tryz.prog 74 [.int .u64 b] n Q := by
  refine of74 hn ?_
  obtain ⟨q, hq⟩ : ∃ q, q = b / 9223372036854775808 := ⟨_, rfl⟩
  have h : binPV Tryz.prog .quo 48 (.int .u64 (b : Int)) (.int .u64 9223372036854775808) = some (.int .u64 (q : Nat)) := by
    rw [binPV_quo, if_neg (by omega), show (9223372036854775808 : Int) = ((9223372036854775808 : Nat) : Int) from rfl, tdiv_nat, ← hq, wrap_u64_nat _ (by omega)]
  have h2 : bN b = decide (q = 1) := by unfold bN; rw [Bool.eq_iff_iff]; simp; omega
  rw [h2] at hQ
  simpa (disch := omega) [-binPV_quo, c74, h] using hQ
theorem RefPower_call {n : Nat} (hn : 0 < n) (b : Nat) (hb : b < 18446744073709551616) {Q : PV → Nat → List Nat → Prop} (hQ : Q (.int .i64 (bP b : Nat)) n []) : PCall Tryz.prog 65 [.int .u64 b] n Q := by
  refine of65 hn ?_
  obtain ⟨q, hq⟩ : ∃ q, q = b % 9223372036854775808 := ⟨_, rfl⟩
  have h : binPV Tryz.prog .rem 48 (.int .u64 (b : Int)) (.int .u64 9223372036854775808) = some (.int .u64 (q : Nat)) := by
    rw [binPV_rem, if_neg (by omega), show (9223372036854775808 : Int) = ((9223372036854775808 : Nat) : Int) from rfl, tmod_nat, ← hq]
  have h2 : binPV Tryz.prog .quo 48 (.int .u64 (q : Int)) (.int .u64 4503599627370496) = some (.int .u64 (bP b : Nat)) := by
    rw [binPV_quo, if_neg (by omega), show (4503599627370496 : Int) = ((4503599627370496 : Nat) : Int) from rfl, tdiv_nat, show q / 4503599627370496 = bP b by unfold bP; omega, wrap_u64_nat _ (by have := bP_le b; omega)]
  have := bP_le b
  simpa (disch := omega) [-binPV_quo, -binPV_rem, c65, h, h2] using hQ
theorem RefFrac_call {n : Nat} (hn : 0 < n) (b : Nat) (hb : b < 18446744073709551616) {Q : PV → Nat → List Nat → Prop} (hQ : Q (.int .u64 (bF b : Nat)) n []) : PCall Tryz.prog 73 [.int .u64 b] n Q := by
  refine of73 hn ?_
  have h : binPV Tryz.prog .rem 48 (.int .u64 (b : Int)) (.int .u64 4503599627370496) = some (.int .u64 (bF b : Nat)) := by
    rw [binPV_rem, if_neg (by omega), show (4503599627370496 : Int) = ((4503599627370496 : Nat) : Int) from rfl, tmod_nat]; rfl
  simpa (disch := omega) [-binPV_rem, c73, h] using hQ
theorem RefFiniteB_call {n : Nat} (hn : 0 < n) (b : Nat) (hb : b < 18446744073709551616) {Q : PV → Nat → List Nat → Prop} (hQ : Q (.bool (finB b)) n []) : PCall Tryz.prog 42 [.int .u64 b] n Q := by
  refine of42 hn ?_
  unfold finB at hQ
  simp (disch := omega) [c42]
  refine CallK.of (by simp) (RefPower_call hn b hb ?_)
  simpa (disch := omega) [] using hQ
end Go.Proofs.YtphndngifjgeoaaGreatDoor

/-! SfB: A number's value, by value. -/
set_option linter.unusedVariables false
set_option linter.unusedSimpArgs false
namespace Go.Proofs.YtphndngifjgeoaaGreatDoor
open Go.Proofs

theorem newSid_le {a b c : Nat} {i : Sid} (h : a ≤ b) (d : newSid b c i) : newSid a c i := by
  rcases d with rfl | ⟨d1, d2⟩
  · exact .inl rfl
  · exact .inr ⟨by omega, d2⟩

def mant (b : Nat) : Nat := if bP b = 0 then bF b else bF b + 4503599627370496
def expo (b : Nat) : Int := if bP b = 0 then -1074 else (bP b : Int) - 1075
def valZ (b : Nat) : Int := if bN b then -(mant b : Int) else mant b
theorem mant_lt (b : Nat) : mant b < 9007199254740992 := by have := bF_lt b; unfold mant; split <;> omega
theorem expo_le (b : Nat) : -1074 ≤ expo b ∧ expo b ≤ 972 := by have := bP_le b; unfold expo; split <;> omega
theorem valZ_abs (b : Nat) : (valZ b).natAbs = mant b := by unfold valZ; split <;> simp
theorem valZ_neg (b : Nat) : decide (valZ b < 0) = (bN b && !decide (mant b = 0)) := by
  unfold valZ
  cases h : bN b
  · simp
  · by_cases h0 : mant b = 0
    · simp [h0]
    · simp [h0]; omega
theorem sz_val (b : Nat) : sz (valZ b) 2 := by
  have := mant_lt b
  unfold sz; rw [valZ_abs]; omega
theorem Parts_call {n : Nat} (hn : 0 < n) (b : Nat) (hb : b < 18446744073709551616) {Q : PV → Nat → List Nat → Prop} (hQ : Q (.tup [.int .u64 (mant b : Nat), .int .i64 (expo b)]) n []) : PCall Tryz.prog 57 [.int .u64 b] n Q := by
  have hp := bP_le b
  have hf := bF_lt b
  refine of57 hn ?_
  simp (disch := omega) [c57]
  refine CallK.of (by simp) (Split_call hn b hb ?_)
  unfold mant expo at hQ
  by_cases h : bP b = 0
  · simp only [h, if_true] at hQ
    simpa (disch := omega) [h] using hQ
  · simp only [h, if_false] at hQ
    obtain ⟨f, hff⟩ : ∃ f, f = bF b := ⟨_, rfl⟩
    obtain ⟨p, hpp⟩ : ∃ p, p = bP b := ⟨_, rfl⟩
    rw [← hff, ← hpp] at hQ
    rw [← hff, ← hpp]
    rw [← hpp] at h
    have hor : binPV Tryz.prog .or 48 (.int .u64 (f : Int)) (.int .u64 4503599627370496) = some (.int .u64 ((f + 4503599627370496 : Nat) : Int)) := by
      have := binPV_or_low (P := Tryz.prog) (t := 48) (a := f) (b := 4503599627370496) (k := 52) (c := f + 4503599627370496) (d := 1) (by omega) (by decide) (by omega) (by omega)
      exact this
    simp only [Int.natCast_add] at hQ hor
    simpa (disch := omega) [h, hor] using hQ
theorem dyOk_val (b : Nat) : dyOk (valZ b) (expo b) = true := by
  unfold dyOk
  by_cases h : valZ b = 0
  · simp [h]
  · have h1 := tz_sz h (sz_val b)
    have h2 := expo_le b
    unfold dyE
    rw [if_neg h]
    simp only [h, decide_false, Bool.false_or, Bool.and_eq_true, decide_eq_true_eq]
    omega
theorem Value_call {n : Nat} (hn : 0 < n) (b : Nat) (hb : b < 18446744073709551616) {Q : PV → Nat → List Nat → Prop} (h0 : finB b = false → Q (.tup [D false ⟨0, 0, 0⟩ [] 0, .int .i64 7]) n [])
    (hQ : finB b = true → ∀ (i : Sid) (n' : Nat), n ≤ n' → newSid n n' i → Q (.tup [D (decide (dyM (valZ b) < 0)) i (dig (dyM (valZ b)).natAbs) (dyE (valZ b) (expo b)), .int .i64 0]) n' []) : PCall Tryz.prog 33 [.int .u64 b] n Q := by
  refine of33 hn ?_
  simp (disch := omega) [c33]
  refine CallK.of (by simp) (Finite_call hn b hb ?_)
  cases hf : finB b
  · have := h0 hf
    simpa (disch := omega) [hf] using this
  · have hQ := hQ hf
    have hm := mant_lt b
    have he := expo_le b
    have ha := valZ_abs b
    have hs := valZ_neg b
    obtain ⟨z, hz⟩ : ∃ z, z = valZ b := ⟨_, rfl⟩
    obtain ⟨m, hmm⟩ : ∃ m, m = mant b := ⟨_, rfl⟩
    obtain ⟨e, hee⟩ : ∃ e, e = expo b := ⟨_, rfl⟩
    have hok := dyOk_val b
    have hzs := sz_val b
    rw [← hz, ← hee] at hok hQ
    rw [← hz] at ha hs hzs
    rw [← hmm] at ha hs hm
    rw [← hee] at he
    simp (disch := omega) [hf]
    refine CallK.of (by simp) (Parts_call hn b hb ?_)
    rw [← hmm, ← hee]
    simp (disch := omega) []
    refine CallK.of (by simp) (Of_call hn (m : Int) (by omega) (by omega) fun i1 n1 g1 d1 => ?_)
    have hm0 : ¬ (m : Int) < 0 := by omega
    simp (disch := omega) [g1, hm0]
    refine CallK.of (by simp) (Sign_call (by omega) b hb ?_)
    have hl := hzs.len
    rw [ha] at hl
    have fin : ∀ (ng : Bool), ng = decide (z < 0) → ∀ {Q' : PV → Nat → List Nat → Prop}, (∀ (i : Sid) (n' : Nat), n1 ≤ n' → newSid n1 n' i → Q' (.tup [D (decide (dyM z < 0)) i (dig (dyM z).natAbs) (dyE z e), .int .i64 0]) n' []) → PCall Tryz.prog 60 [W ng i1 (dig m), .int .i64 e] n1 Q' := by
      intro ng hng Q' hq
      have hr := rightW_Z (x := z) (by rw [ha]; omega)
      have hnum := numW_dig z
      rw [← hng, ha] at hr hnum
      refine Make_call (by omega) ng i1 (dig m) (by omega) (Lim.dig _) e (fun h => by rw [hr] at h; cases h) (fun _ h => by omega) (fun _ _ i' n' g d => ?_)
      rw [hnum, hok, if_pos rfl]
      exact hq i' n' g d
    cases hsg : bN b
    · rw [hsg] at hs
      simp (disch := omega) [g1]
      refine CallK.of (by simp) (fin false (by rw [hs]; rfl) fun i' n' g d => ?_)
      have := hQ i' n' (by omega) (newSid_le g1 d)
      simpa (disch := omega) [show n ≤ n' by omega] using this
    · rw [hsg] at hs
      by_cases h00 : m = 0
      · simp (disch := omega) [g1, h00]
        subst h00
        refine CallK.of (by simp) (fin false (by rw [hs]; rfl) fun i' n' g d => ?_)
        have := hQ i' n' (by omega) (newSid_le g1 d)
        simpa (disch := omega) [show n ≤ n' by omega] using this
      · simp (disch := omega) [g1, h00]
        refine CallK.of (by simp) (fin true (by rw [hs]; simp [h00]) fun i' n' g d => ?_)
        have := hQ i' n' (by omega) (newSid_le g1 d)
        simpa (disch := omega) [show n ≤ n' by omega] using this
theorem RefValue_call {n : Nat} (hn : 0 < n) (b : Nat) (hb : b < 18446744073709551616) {Q : PV → Nat → List Nat → Prop}
    (hQ : ∀ (i : Sid) (n' : Nat), n ≤ n' → Q (D (decide (dyM (valZ b) < 0)) i (dig (dyM (valZ b)).natAbs) (dyE (valZ b) (expo b))) n' []) : PCall Tryz.prog 47 [.int .u64 b] n Q := by
  have hm := mant_lt b
  have he := expo_le b
  have hp := bP_le b
  have hfr := bF_lt b
  have ha := valZ_abs b
  have hzs := sz_val b
  have hdef : valZ b = if bN b then -(mant b : Int) else mant b := rfl
  obtain ⟨z, hz⟩ : ∃ z, z = valZ b := ⟨_, rfl⟩
  obtain ⟨m, hmm⟩ : ∃ m, m = mant b := ⟨_, rfl⟩
  obtain ⟨e, hee⟩ : ∃ e, e = expo b := ⟨_, rfl⟩
  have hmd : m = if bP b = 0 then bF b else bF b + 4503599627370496 := hmm
  have hed : e = if bP b = 0 then -1074 else (bP b : Int) - 1075 := hee
  rw [← hz, ← hee] at hQ
  rw [← hz] at ha hdef hzs
  rw [← hmm] at ha hm hdef
  rw [← hee] at he
  have hwe : IntKind.i64.wrap e = e := wrap_i64_id e (by omega) (by omega)
  have hE : (if z = 0 then 0 else IntKind.i64.wrap (e + tz z.natAbs)) = dyE z e := by
    unfold dyE
    by_cases h : z = 0
    · rw [if_pos h, if_pos h]
    · have := tz_sz h hzs
      rw [if_neg h, if_neg h]; exact wrap_i64_id _ (by omega) (by omega)
  have hszm : ((m : Int)).natAbs = m := by simp
  have fin : ∀ (i1 : Sid) (n1 : Nat), n ≤ n1 → newSid n n1 i1 → ∀ {Q' : PV → Nat → List Nat → Prop}, (∀ (i : Sid) (n' : Nat), n1 ≤ n' → Q' (D (decide (dyM z < 0)) i (dig (dyM z).natAbs) (dyE z e)) n' []) → PCall Tryz.prog 29 [W (decide (z < 0)) i1 (dig z.natAbs), .int .i64 e] n1 Q' := by
    intro i1 n1 g1 d1 Q' hq
    refine RefOfD_call (by omega) z e i1 (newSid_lt d1 (by omega)) (hzs.mono (by omega)) hwe fun i' n' g => ?_
    rw [hE]; exact hq i' n' g
  have hlm : (dig m).length ≤ 2 := by have := hzs.len; rw [ha] at this; exact this
  have hnumm : numW false (dig m) = (m : Int) := by have := numW_dig (m : Int); simpa using this
  refine of47 hn ?_
  by_cases hp0 : bP b = 0
  · rw [if_pos hp0] at hmd hed
    subst hed
    simp (disch := omega) [c47]
    refine CallK.of (by simp) (RefFrac_call hn b hb ?_)
    rw [← hmd]
    simp (disch := omega) []
    refine CallK.of (by simp) (RefOf_call hn (m : Int) (by omega) (by omega) fun i1 n1 g1 d1 => ?_)
    have hm0 : decide ((m : Int) < 0) = false := by simp
    rw [hm0, hszm]
    simp (disch := omega) [g1]
    refine CallK.of (by simp) (RefPower_call (by omega) b hb ?_)
    simp (disch := omega) [g1, hp0]
    refine CallK.of (by simp) (RefNegB_call (by omega) b hb ?_)
    cases hsg : bN b
    · rw [hsg] at hdef
      have hzm : z = (m : Int) := by rw [hdef]; rfl
      simp (disch := omega) [g1]
      have h1 : decide (z < 0) = false := by rw [hzm]; simp
      have := fun {Q' : PV → Nat → List Nat → Prop} => fin i1 n1 (by omega) d1 (Q' := Q')
      rw [h1, ha] at this
      refine CallK.of (by simp) (this fun i9 n9 g9 => ?_)
      have := hQ i9 n9 (by omega)
      simpa (disch := omega) [show n ≤ n9 by omega] using this
    · rw [hsg] at hdef
      have hzm : z = -(m : Int) := by rw [hdef]; rfl
      simp (disch := omega) [g1]
      refine CallK.of (by simp) (Neg_call (by omega) false i1 (dig m) (by omega) (Lim.dig _) z (by rw [hnumm]; exact hzm) fun i8 d8 => ?_)
      simp (disch := omega) [g1]
      refine CallK.of (by simp) (fin i8 n1 (by omega) (by rcases d8 with rfl | rfl; exact .inl rfl; exact d1) fun i9 n9 g9 => ?_)
      have := hQ i9 n9 (by omega)
      simpa (disch := omega) [show n ≤ n9 by omega] using this
  · rw [if_neg hp0] at hmd hed
    simp (disch := omega) [c47]
    refine CallK.of (by simp) (RefFrac_call hn b hb ?_)
    simp (disch := omega) []
    refine CallK.of (by simp) (RefOf_call hn (bF b : Int) (by omega) (by omega) fun i1 n1 g1 d1 => ?_)
    simp (disch := omega) [g1]
    refine CallK.of (by simp) (RefPower_call (by omega) b hb ?_)
    have hpp : 0 < bP b := by omega
    simp (disch := omega) [g1, hpp]
    refine CallK.of (by simp) (RefFrac_call (by omega) b hb ?_)
    have hw1 : IntKind.u64.wrap ((bF b : Int) + 4503599627370496) = (m : Int) := by rw [hmd, wrap_u64_eq]; omega
    have hw2 : IntKind.i64.wrap (m : Int) = (m : Int) := wrap_i64_nat m (by omega)
    simp (disch := omega) [-wrap_u64_at, -wrap_i64_at, g1, hw1, hw2]
    refine CallK.of (by simp) (RefOf_call (by omega) (m : Int) (by omega) (by omega) fun i2 n2 g2 d2 => ?_)
    have hm0 : decide ((m : Int) < 0) = false := by simp
    rw [hm0, hszm]
    simp (disch := omega) [g1, g2]
    refine CallK.of (by simp) (RefPower_call (by omega) b hb ?_)
    have hw3 : IntKind.i64.wrap ((bP b : Int) - 1075) = e := by rw [hed]; exact wrap_i64_id _ (by omega) (by omega)
    simp (disch := omega) [-wrap_i64_at, g1, g2, hw3]
    refine CallK.of (by simp) (RefNegB_call (by omega) b hb ?_)
    cases hsg : bN b
    · rw [hsg] at hdef
      have hzm : z = (m : Int) := by rw [hdef]; rfl
      simp (disch := omega) [g1, g2]
      have h1 : decide (z < 0) = false := by rw [hzm]; simp
      have := fun {Q' : PV → Nat → List Nat → Prop} => fin i2 n2 (by omega) (newSid_le g1 d2) (Q' := Q')
      rw [h1, ha] at this
      refine CallK.of (by simp) (this fun i9 n9 g9 => ?_)
      have := hQ i9 n9 (by omega)
      simpa (disch := omega) [show n ≤ n9 by omega] using this
    · rw [hsg] at hdef
      have hzm : z = -(m : Int) := by rw [hdef]; rfl
      simp (disch := omega) [g1, g2]
      refine CallK.of (by simp) (Neg_call (by omega) false i2 (dig m) (by omega) (Lim.dig _) z (by rw [hnumm]; exact hzm) fun i8 d8 => ?_)
      simp (disch := omega) [g1, g2]
      refine CallK.of (by simp) (fin i8 n2 (by omega) (by rcases d8 with rfl | rfl; exact .inl rfl; exact (newSid_le g1 d2)) fun i9 n9 g9 => ?_)
      have := hQ i9 n9 (by omega)
      simpa (disch := omega) [show n ≤ n9 by omega] using this
end Go.Proofs.YtphndngifjgeoaaGreatDoor


/-! SrZ: Shifted numbers, made dyadic numbers, sums: that what they answer with is no later one's. (The same proofs as RefShift_call's and its kin's, with one more fact.) -/
set_option linter.unusedVariables false
set_option linter.unusedSimpArgs false
set_option maxHeartbeats 2000000
set_option maxRecDepth 20000
namespace Go.Proofs.YtphndngifjgeoaaGreatDoor
open Go.Proofs

section
variable {n : Nat} {z : Int} {Q : PV → Nat → List Nat → Prop} (hQ : ∀ (i : Sid) (n' : Nat), n ≤ n' → i.f < n' → Q (.agg [.bool (decide (z < 0)), .sl i 1 (u32s (dig z.natAbs))]) n' [])
include hQ
theorem RSb_0 {x m : Int} {s : St} (h : RS n z x m s) (h0 : m = 0 ∨ x = 0) : GO Tryz.prog c80R0 (fin Tryz.prog [.cell 4 27] n Q) s := by
  obtain ⟨i, nx, ⟨e1, e2, e3, e4, e5⟩, hnx, hix, hx0, hm1, hm2, hz, hx, hs⟩ := h
  simp at e5
  obtain ⟨e5, e6, e7⟩ := e5
  have hxz : x = z := by
    rcases h0 with e | e
    · subst e; rw [← hz, shZ_none]
    · subst e; rw [← hz, shZ_zero]
  subst hxz
  have := hQ i nx hnx hix
  simpa (disch := omega) [c80R0, e1, e2, e3, e4, e5, e6, e7] using ⟨by omega, this⟩
theorem RSb_1 {x m : Int} {s : St} (h : RS n z x m s) (h0 : m ≤ 0 ∨ x = 0) : GO Tryz.prog c80R1 (fin Tryz.prog [.cell 4 27] n Q) s := by
  simp only [c80R1]
  simp (disch := omega) []
  refine GO_loopN (fun k s => ∃ x m, RS n z x m s ∧ (m ≤ 0 ∨ x = 0) ∧ k = m.natAbs) m.natAbs ⟨x, m, h, h0, rfl⟩ ?_
  clear h h0
  rintro k s ⟨x, m, h, h0, rfl⟩
  have H := h
  obtain ⟨i, nx, ⟨e1, e2, e3, e4, e5⟩, hnx, hix, hx0, hm1, hm2, hz, hx, hs⟩ := h
  simp at e5
  obtain ⟨e5, e6, e7⟩ := e5
  have hl := hx.len
  by_cases hm : m < 0
  · by_cases hxz : x = 0
    · have hd : dig x.natAbs = [] := by subst hxz; exact dig_zero
      simp (disch := omega) [c80L3, e1, e2, e3, e4, e5, e6, e7, hm, hd]
      exact RSb_0 hQ (x := x) (m := m) ⟨i, nx, by simp [At, e1, e2, e3, e4, e5, e6, e7, hd], hnx, hix, hx0, hm1, hm2, hz, hx, hs⟩ (.inr hxz)
    · obtain ⟨hd, hd2⟩ := dig_ne hxz
      have hw : IntKind.i64.wrap (m + 1) = m + 1 := wrap_i64_is rfl (by omega)
      simp (disch := omega) [c80L3, e1, e2, e3, e4, e5, e6, e7, hm, hd, hd2]
      obtain ⟨y, hy⟩ : ∃ y, y = x.tdiv 2 := ⟨_, rfl⟩
      have hys : y.natAbs ≤ x.natAbs := by rw [hy, Int.natAbs_tdiv]; exact Nat.div_le_self _ _
      refine CallK.of (by simp) (Half_call (by omega) _ i hix _ (by omega) (Lim.dig _) y (by rw [numW_dig, hy]) fun i' n' h1 h2 => ?_)
      simp (disch := omega) [e1, e2, e3, e4, e5, e6, e7, hw]
      exact ⟨(m + 1).natAbs, by omega, y, m + 1, ⟨i', n', by simp [At, e1, e2, e3, e4, e5, e6, e7], by omega, newSid_lt h2 (by omega), by omega, by omega, by omega, by rw [hy, shZ_down1 hm, hz], hx.le hys, hs⟩, by omega, rfl⟩
  · simp (disch := omega) [c80L3, e1, e2, e3, e4, e5, e6, e7, hm]
    exact RSb_0 hQ (x := x) (m := m) ⟨i, nx, by simp [At, e1, e2, e3, e4, e5, e6, e7], hnx, hix, hx0, hm1, hm2, hz, hx, hs⟩ (by omega)
theorem RSb_2 {x m : Int} {s : St} (h : RS n z x m s) (h0 : m ≤ 0 ∨ x = 0) : GO Tryz.prog c80R2 (fin Tryz.prog [.cell 4 27] n Q) s := by
  simp only [c80R2]
  simp (disch := omega) []
  refine GO_loopN (fun k s => ∃ x m, RS n z x m s ∧ (m ≤ 0 ∨ x = 0) ∧ k = m.natAbs) m.natAbs ⟨x, m, h, h0, rfl⟩ ?_
  clear h h0
  rintro k s ⟨x, m, h, h0, rfl⟩
  have H := h
  obtain ⟨i, nx, ⟨e1, e2, e3, e4, e5⟩, hnx, hix, hx0, hm1, hm2, hz, hx, hs⟩ := h
  simp at e5
  obtain ⟨e5, e6, e7⟩ := e5
  have hl := hx.len
  by_cases hm : m ≤ -32
  · by_cases hxz : x = 0
    · have hd : dig x.natAbs = [] := by subst hxz; exact dig_zero
      simp (disch := omega) [c80L2, e1, e2, e3, e4, e5, e6, e7, hm, hd]
      exact RSb_1 hQ (x := x) (m := m) ⟨i, nx, by simp [At, e1, e2, e3, e4, e5, e6, e7, hd], hnx, hix, hx0, hm1, hm2, hz, hx, hs⟩ (.inr hxz)
    · obtain ⟨hd, hd2⟩ := dig_ne hxz
      have hw : IntKind.i64.wrap (m + 32) = m + 32 := wrap_i64_is rfl (by omega)
      have hm' : m < 0 := by omega
      obtain ⟨l1, hl1⟩ : ∃ l1, l1 = (dig x.natAbs).tail := ⟨_, rfl⟩
      have hll : l1.length ≤ 1100 := by rw [hl1]; simp; omega
      have llm : Lim l1 := by rw [hl1, ← List.drop_one]; exact (Lim.dig _).drop 1
      simp (disch := omega) [c80L2, e1, e2, e3, e4, e5, e6, e7, hm, hd, hd2, ← hl1]
      obtain ⟨y, hy⟩ : ∃ y, y = x.tdiv 4294967296 := ⟨_, rfl⟩
      have hya : y.natAbs = x.natAbs / 4294967296 := by rw [hy, Int.natAbs_tdiv]; rfl
      have hys : y.natAbs ≤ x.natAbs := by omega
      have hsg : y.natAbs ≠ 0 → decide (x < 0) = decide (y < 0) := by
        intro h
        have e : x.tdiv 4294967296 = shZ x (-32) := rfl
        rw [hy, e] at h ⊢
        exact shZ_sign _ _ h
      have hv1 : val l1 = y.natAbs := by
        rw [hl1, dig_pos (by omega), List.tail_cons, val_dig, hya]
      refine CallK.of (by simp) (Made_call' (by omega) _ ⟨i.f, i.g, i.off + 1⟩ l1 (by omega) llm y hv1 (by rw [hv1]; exact hsg) fun i' hi' => ?_)
      simp (disch := omega) [e1, e2, e3, e4, e5, e6, e7, hw]
      exact ⟨(m + 32).natAbs, by omega, y, m + 32, ⟨i', nx, by simp [At, e1, e2, e3, e4, e5, e6, e7], by omega, by rcases hi' with e | e <;> subst e <;> simp <;> omega, by omega, by omega, by omega, by rw [hy, shZ_down32 hm, hz], hx.le hys, hs⟩, by omega, rfl⟩
  · simp (disch := omega) [c80L2, e1, e2, e3, e4, e5, e6, e7, hm]
    exact RSb_1 hQ (x := x) (m := m) ⟨i, nx, by simp [At, e1, e2, e3, e4, e5, e6, e7], hnx, hix, hx0, hm1, hm2, hz, hx, hs⟩ h0
theorem RSb_3 {x m : Int} {s : St} (h : RS n z x m s) : GO Tryz.prog c80R3 (fin Tryz.prog [.cell 4 27] n Q) s := by
  simp only [c80R3]
  simp (disch := omega) []
  refine GO_loopN (fun k s => ∃ x m, RS n z x m s ∧ k = m.natAbs) m.natAbs ⟨x, m, h, rfl⟩ ?_
  clear h
  rintro k s ⟨x, m, h, rfl⟩
  have H := h
  obtain ⟨i, nx, ⟨e1, e2, e3, e4, e5⟩, hnx, hix, hx0, hm1, hm2, hz, hx, hs⟩ := h
  simp at e5
  obtain ⟨e5, e6, e7⟩ := e5
  have hl := hx.len
  by_cases hm : 0 < m
  · by_cases hxz : x = 0
    · have hd : dig x.natAbs = [] := by subst hxz; exact dig_zero
      simp (disch := omega) [c80L1, e1, e2, e3, e4, e5, e6, e7, hm, hd]
      exact RSb_2 hQ (x := x) (m := m) ⟨i, nx, by simp [At, e1, e2, e3, e4, e5, e6, e7, hd], hnx, hix, hx0, hm1, hm2, hz, hx, hs⟩ (.inr hxz)
    · obtain ⟨hd, hd2⟩ := dig_ne hxz
      have hw : IntKind.i64.wrap (m - 1) = m - 1 := wrap_i64_is rfl (by omega)
      simp (disch := omega) [c80L1, e1, e2, e3, e4, e5, e6, e7, hm, hd, hd2]
      obtain ⟨y, hy⟩ : ∃ y, y = x * 2 := ⟨_, rfl⟩
      have hyz : shZ y (m - 1) = z := by rw [hy, shZ_up1 hm, hz]
      refine CallK.of (by simp) (Double_call (by omega) _ i _ (by omega) (Lim.dig _) y (by rw [numW_dig, hy]) fun i' n' h1 h2 => ?_)
      simp (disch := omega) [e1, e2, e3, e4, e5, e6, e7, hw]
      exact ⟨(m - 1).natAbs, by omega, y, m - 1, ⟨i', n', by simp [At, e1, e2, e3, e4, e5, e6, e7], by omega, newSid_lt h2 (by omega), by omega, by omega, by omega, hyz, sz_of_shZ hyz hs (by omega), hs⟩, rfl⟩
  · simp (disch := omega) [c80L1, e1, e2, e3, e4, e5, e6, e7, hm]
    exact RSb_2 hQ (x := x) (m := m) ⟨i, nx, by simp [At, e1, e2, e3, e4, e5, e6, e7], hnx, hix, hx0, hm1, hm2, hz, hx, hs⟩ (.inl (by omega))
theorem RSb_4 {x m : Int} {s : St} (h : RS n z x m s) : GO Tryz.prog (.loop c80L0) (PExit.inBlock 0 (PExit.then (GO Tryz.prog c80R3 (fin Tryz.prog [.cell 4 27] n Q)) (fin Tryz.prog [.cell 4 27] n Q))) s := by
  refine GO_loopN (fun k s => ∃ x m, RS n z x m s ∧ k = m.natAbs) m.natAbs ⟨x, m, h, rfl⟩ ?_
  clear h
  rintro k s ⟨x, m, h, rfl⟩
  have H := h
  obtain ⟨i, nx, ⟨e1, e2, e3, e4, e5⟩, hnx, hix, hx0, hm1, hm2, hz, hx, hs⟩ := h
  simp at e5
  obtain ⟨e5, e6, e7⟩ := e5
  have hl := hx.len
  by_cases hm : 32 ≤ m
  · by_cases hxz : x = 0
    · have hd : dig x.natAbs = [] := by subst hxz; exact dig_zero
      simp (disch := omega) [c80L0, e1, e2, e3, e4, e5, e6, e7, hm, hd]
      exact RSb_3 hQ (x := x) (m := m) ⟨i, nx, by simp [At, e1, e2, e3, e4, e5, e6, e7, hd], hnx, hix, hx0, hm1, hm2, hz, hx, hs⟩ 
    · obtain ⟨hd, hd2⟩ := dig_ne hxz
      have hw : IntKind.i64.wrap (m - 32) = m - 32 := wrap_i64_is rfl (by omega)
      simp (disch := omega) [c80L0, e1, e2, e3, e4, e5, e6, e7, hm, hd, hd2]
      obtain ⟨y, hy⟩ : ∃ y, y = x * 4294967296 := ⟨_, rfl⟩
      have hyz : shZ y (m - 32) = z := by rw [hy, shZ_up32 hm, hz]
      refine ⟨by omega, ?_⟩
      refine CallK.of (by simp) (Made_call' (by omega) _ _ (0 :: dig x.natAbs) (by simp; omega) (by intro w hw; rcases List.mem_cons.1 hw with e | e; omega; exact Lim.dig _ w e) y (by rw [val_cons, val_dig, hy, Int.natAbs_mul]; simp; omega) (fun _ => by rw [hy, decide_eq_decide]; omega) fun i' hi' => ?_)
      simp (disch := omega) [e1, e2, e3, e4, e5, e6, e7, hw]
      exact ⟨(m - 32).natAbs, by omega, y, m - 32, ⟨i', nx + 2, by simp [At, e1, e2, e3, e4, e5, e6, e7], by omega, by rcases hi' with e | e <;> subst e <;> simp <;> omega, by omega, by omega, by omega, hyz, sz_of_shZ hyz hs (by omega), hs⟩, rfl⟩
  · simp (disch := omega) [c80L0, e1, e2, e3, e4, e5, e6, e7, hm]
    exact RSb_3 hQ (x := x) (m := m) ⟨i, nx, by simp [At, e1, e2, e3, e4, e5, e6, e7], hnx, hix, hx0, hm1, hm2, hz, hx, hs⟩ 
end
theorem RefShift2_call {n : Nat} (hn : 0 < n) (x : Int) (ia : Sid) (hia : ia.f < n) (hx : sz x 512) (m : Int) (hm : -16384 ≤ m ∧ m ≤ 16384) (z : Int) (hz : shZ x m = z) {Q : PV → Nat → List Nat → Prop}
    (hQ : ∀ (i : Sid) (n' : Nat), n ≤ n' → i.f < n' → Q (W (decide (z < 0)) i (dig z.natAbs)) n' []) : PCall Tryz.prog 80 [W (decide (x < 0)) ia (dig x.natAbs), .int .i64 m] n Q := by
  have hzs : sz z 1100 := (shZ_sz (j := 512) hz hx (by omega)).mono (by omega)
  simp only [W] at hQ
  refine of80 hn ?_
  simp (disch := omega) [c80]
  exact RSb_4 hQ (x := x) (m := m) ⟨ia, n, by simp [At], by omega, hia, by omega, by omega, by omega, hz, hx.mono (by omega), hzs⟩
theorem OIb_exit {n : Nat} {x e x1 : Int} {s : St} {Q : PV → Nat → List Nat → Prop} (h : OI n x e x1 s) (ho : x1.natAbs % 2 = 1)
    (hQ : ∀ (i' : Sid) (n' : Nat), n ≤ n' → i'.f < n' → Q (.agg [.bool (decide (dyM x < 0)), .sl i' 1 (u32s (dig (dyM x).natAbs)), .int .i64 (IntKind.i64.wrap (e + tz x.natAbs))]) n' []) : GO Tryz.prog c29R0 (fin Tryz.prog [.cell 4 29] n Q) s := by
  obtain ⟨i, nx, ⟨e1, e2, e3, e4, e5⟩, hnx, hix, hx0, hne, htz, hd, hs⟩ := h
  simp at e5
  obtain ⟨e5, e6, e7⟩ := e5
  have ht : tz x1.natAbs = 0 := tz_odd ho
  have hM : dyM x1 = x1 := by unfold dyM; rw [if_neg hne, ht]; simp [shZ]
  rw [hM] at hd
  rw [ht] at e5
  simp at e5
  have := hQ i nx hnx hix
  rw [← hd] at this
  simpa (disch := omega) [c29R0, e1, e2, e3, e4, e5, e6, e7] using ⟨by omega, this⟩
theorem OIb_1 {n : Nat} {x e x1 : Int} {s : St} {Q : PV → Nat → List Nat → Prop} (h : OI n x e x1 s) 
    (hQ : ∀ (i' : Sid) (n' : Nat), n ≤ n' → i'.f < n' → Q (.agg [.bool (decide (dyM x < 0)), .sl i' 1 (u32s (dig (dyM x).natAbs)), .int .i64 (IntKind.i64.wrap (e + tz x.natAbs))]) n' []) : GO Tryz.prog c29R1 (fin Tryz.prog [.cell 4 29] n Q) s := by
  simp only [c29R1]
  simp (disch := omega) []
  refine GO_loopN (fun k s => ∃ x1, OI n x e x1 s ∧ k = tz x1.natAbs) (tz x1.natAbs) ⟨x1, h, rfl⟩ ?_
  clear h x1
  rintro k s ⟨x1, h, rfl⟩
  have H := h
  obtain ⟨i, nx, ⟨e1, e2, e3, e4, e5⟩, hnx, hix, hx0, hne, htz, hd, hs⟩ := h
  simp only [List.mem_cons, List.not_mem_nil, or_false, forall_eq_or_imp, forall_eq] at e5
  obtain ⟨e5, e6, e7⟩ := e5
  have hl := hs.len
  obtain ⟨v, hv⟩ : ∃ v, v = IntKind.i64.wrap (e + (tz x.natAbs - tz x1.natAbs : Nat)) := ⟨_, rfl⟩
  rw [← hv] at e5
  simp (disch := omega) [c29L1, e1, e2, e3, e4, e5, e6, e7]
  refine CallK.of (by simp) (Odd_call (by omega) _ i _ (by omega) (Lim.dig _) ?_)
  rw [odd_dig]
  by_cases ho : x1.natAbs % 2 = 1
  · simp (disch := omega) [e1, e2, e3, e4, e5, e6, e7, ho]
    refine OIb_exit (x1 := x1) ⟨i, nx, ?_, hnx, hix, hx0, hne, htz, hd, hs⟩ ho hQ
    simp [At, e1, e2, e3, e4, e5, e6, e7, hv]
  · simp (disch := omega) [e1, e2, e3, e4, e5, e6, e7, ho]
    obtain ⟨k1, k2, k3, k4⟩ := tz_down (x := x1) (k := 1) hne (by simp; omega)
    rw [show (2 : Int) ^ 1 = 2 from rfl] at k1 k2 k3 k4
    obtain ⟨y, hy⟩ : ∃ y, y = x1.tdiv 2 := ⟨_, rfl⟩
    rw [← hy] at k1 k2 k3 k4
    refine CallK.of (by simp) (Half_call (by omega) _ i hix _ (by omega) (Lim.dig _) y (by rw [numW_dig, hy]) fun i' n' h1 h2 => ?_)
    have hw : IntKind.i64.wrap (v + 1) = IntKind.i64.wrap (e + (tz x.natAbs - tz y.natAbs : Nat)) := by
      rw [hv, wrap_i64_full, wrap_i64_full, wrap_i64_full]; omega
    simp (disch := omega) [-wrap_i64_at, e1, e2, e3, e4, e5, e6, e7]
    refine ⟨tz y.natAbs, by omega, y, ⟨i', n', ?_, by omega, newSid_lt h2 (by omega), by omega, k1, by omega, by rw [k3, hd], ?_⟩, rfl⟩
    · rw [← hw]
      simp [-wrap_i64_at, At, e1, e2, e3, e4, e5, e6, e7]
    · refine hs.le ?_
      rw [hy, Int.natAbs_tdiv]; exact Nat.div_le_self _ _
theorem OIb_0 {n : Nat} {x e x1 : Int} {s : St} {Q : PV → Nat → List Nat → Prop} (h : OI n x e x1 s) 
    (hQ : ∀ (i' : Sid) (n' : Nat), n ≤ n' → i'.f < n' → Q (.agg [.bool (decide (dyM x < 0)), .sl i' 1 (u32s (dig (dyM x).natAbs)), .int .i64 (IntKind.i64.wrap (e + tz x.natAbs))]) n' []) :
    GO Tryz.prog (.loop c29L0) (PExit.inBlock 0 (PExit.then (GO Tryz.prog c29R1 (fin Tryz.prog [.cell 4 29] n Q)) (fin Tryz.prog [.cell 4 29] n Q))) s := by
  refine GO_loopN (fun k s => ∃ x1, OI n x e x1 s ∧ k = tz x1.natAbs) (tz x1.natAbs) ⟨x1, h, rfl⟩ ?_
  clear h x1
  rintro k s ⟨x1, h, rfl⟩
  have H := h
  obtain ⟨i, nx, ⟨e1, e2, e3, e4, e5⟩, hnx, hix, hx0, hne, htz, hd, hs⟩ := h
  simp only [List.mem_cons, List.not_mem_nil, or_false, forall_eq_or_imp, forall_eq] at e5
  obtain ⟨e5, e6, e7⟩ := e5
  have hl := hs.len
  obtain ⟨hdl, hd2⟩ := dig_ne hne
  obtain ⟨v, hv⟩ : ∃ v, v = IntKind.i64.wrap (e + (tz x.natAbs - tz x1.natAbs : Nat)) := ⟨_, rfl⟩
  rw [← hv] at e5
  have hg0 : (dig x1.natAbs)[0] = x1.natAbs % 4294967296 := by
    have : ∀ (l : List Nat) (h : 0 < l.length) (y : Nat) (t : List Nat), l = y :: t → l[0] = y := by intro l h y t e; subst e; rfl
    exact this _ hdl _ _ (dig_pos (by omega))
  obtain ⟨g, hg⟩ : ∃ g, g = x1.natAbs % 4294967296 := ⟨_, rfl⟩
  rw [← hg] at hg0
  by_cases hz : g = 0
  · subst hz
    obtain ⟨l1, hl1⟩ : ∃ l1, l1 = (dig x1.natAbs).tail := ⟨_, rfl⟩
    have hll : l1.length ≤ 1100 := by rw [hl1]; simp; omega
    have llm : Lim l1 := by rw [hl1, ← List.drop_one]; exact (Lim.dig _).drop 1
    simp (disch := omega) [c29L0, e1, e2, e3, e4, e5, e6, e7, hdl, hd2, hg0, ← hl1]
    obtain ⟨k1, k2, k3, k4⟩ := tz_down (x := x1) (k := 32) hne (by rw [show (2 : Nat) ^ 32 = 4294967296 from rfl]; omega)
    rw [show (2 : Int) ^ 32 = 4294967296 from rfl] at k1 k2 k3 k4
    obtain ⟨y, hy⟩ : ∃ y, y = x1.tdiv 4294967296 := ⟨_, rfl⟩
    rw [← hy] at k1 k2 k3 k4
    have hya : y.natAbs = x1.natAbs / 4294967296 := by rw [hy, Int.natAbs_tdiv]; rfl
    have hv1 : val l1 = y.natAbs := by rw [hl1, dig_pos (by omega), List.tail_cons, val_dig, hya]
    refine CallK.of (by simp) (Made_call' (by omega) _ ⟨i.f, i.g, i.off + 1⟩ l1 (by omega) llm y hv1 (fun _ => k4) fun i' hi' => ?_)
    have hw : IntKind.i64.wrap (v + 32) = IntKind.i64.wrap (e + (tz x.natAbs - tz y.natAbs : Nat)) := by
      rw [hv, wrap_i64_full, wrap_i64_full, wrap_i64_full]; omega
    simp (disch := omega) [-wrap_i64_at, e1, e2, e3, e4, e5, e6, e7]
    refine ⟨tz y.natAbs, by omega, y, ⟨i', nx, ?_, by omega, by rcases hi' with e | e <;> subst e <;> simp <;> omega, by omega, k1, by omega, by rw [k3, hd], hs.le (by omega)⟩, rfl⟩
    rw [← hw]
    simp [-wrap_i64_at, At, e1, e2, e3, e4, e5, e6, e7]
  · simp (disch := omega) [c29L0, e1, e2, e3, e4, e5, e6, e7, hdl, hd2, hg0, hz]
    refine OIb_1 (x1 := x1) ⟨i, nx, ?_, hnx, hix, hx0, hne, htz, hd, hs⟩ hQ
    simp [At, e1, e2, e3, e4, e5, e6, e7, hv]
theorem RefOfD2_call {n : Nat} (hn : 0 < n) (x e : Int) (i : Sid) (hi : i.f < n) (hx : sz x 1100) (he : IntKind.i64.wrap e = e) {Q : PV → Nat → List Nat → Prop}
    (hQ : ∀ (i' : Sid) (n' : Nat), n ≤ n' → i'.f < n' → Q (D (decide (dyM x < 0)) i' (dig (dyM x).natAbs) (if x = 0 then 0 else IntKind.i64.wrap (e + tz x.natAbs))) n' []) : PCall Tryz.prog 29 [W (decide (x < 0)) i (dig x.natAbs), .int .i64 e] n Q := by
  refine of29 hn ?_
  by_cases h0 : x = 0
  · subst h0
    have := hQ ⟨0, 0, 0⟩ n (by omega) hn
    simp [dyM, dig_zero] at this
    simpa [c29, dig_zero] using this
  · obtain ⟨hdl, hd2⟩ := dig_ne h0
    simp only [if_neg h0, D] at hQ
    simp (disch := omega) [c29, hd2]
    refine OIb_0 (x := x) (x1 := x) ⟨i, n, ?_, by omega, hi, hn, h0, by omega, rfl, hx⟩ hQ
    rw [Nat.sub_self]
    simp [At, he]
theorem RefAddD2_call {n : Nat} (hn : 0 < n) (x y e f : Int) (ia ib : Sid) (hia : ia.f < n) (hib : ib.f < n) (hx : sz x 512) (hy : sz y 512) (h1 : x = 0 → e = 0) (h2 : y = 0 → f = 0) (he : -16384 ≤ e ∧ e ≤ 16384) (hf : -16384 ≤ f ∧ f ≤ 16384) (hw : wideD x y e f = false) (sz1 : sz (sumZ x y e f) 512) {Q : PV → Nat → List Nat → Prop}
    (hQ : ∀ (i' : Sid) (n' : Nat), n ≤ n' → i'.f < n' → Q (D (decide (dyM (sumZ x y e f) < 0)) i' (dig (dyM (sumZ x y e f)).natAbs) (if sumZ x y e f = 0 then 0 else lowE x y e f + tz (sumZ x y e f).natAbs)) n' []) : PCall Tryz.prog 31 [D (decide (x < 0)) ia (dig x.natAbs) e, D (decide (y < 0)) ib (dig y.natAbs) f] n Q := by
  obtain ⟨q1, q2, q3⟩ := lowE_le h1 h2
  have hw' := hw
  unfold wideD at hw'
  rw [Bool.or_eq_false_iff] at hw'
  obtain ⟨E, hE⟩ : ∃ E, E = lowE x y e f := ⟨_, rfl⟩
  obtain ⟨z, hz⟩ : ∃ z, z = sumZ x y e f := ⟨_, rfl⟩
  have hsum : lev x e E + lev y f E = z := by rw [hz]; unfold sumZ; rw [hE]
  have hEb : -16384 ≤ E ∧ E ≤ 16384 := by rw [hE]; unfold lowE; split <;> (try split) <;> omega
  rw [← hE] at q1 q2 hw' hQ
  rw [← hz] at hQ sz1
  have hxe : x ≠ 0 → -16384 ≤ e - E ∧ e - E ≤ 16384 := fun h => by
    have := q1 h
    have h3 := hw'.1
    unfold widE at h3
    simp [h] at h3
    omega
  have hyf : y ≠ 0 → -16384 ≤ f - E ∧ f - E ≤ 16384 := fun h => by
    have := q2 h
    have h3 := hw'.2
    unfold widE at h3
    simp [h] at h3
    omega
  have hlx : sz (lev x e E) 512 := by
    by_cases h : x = 0
    · subst h; have : ∀ q, lev 0 q E = 0 := fun q => by simp [lev]
      rw [this]; exact sz_zero 512
    · exact lev_sz (q1 h) hw'.1
  have hly : sz (lev y f E) 512 := by
    by_cases h : y = 0
    · subst h; have : ∀ q, lev 0 q E = 0 := fun q => by simp [lev]
      rw [this]; exact sz_zero 512
    · exact lev_sz (q2 h) hw'.2
  have l1 := hlx.len
  have l2 := hly.len
  refine of31 hn ?_
  simp (disch := omega) [c31]
  refine CallK.of (by simp) (Low_call hn x y e f ia ib (hx.mono (by omega)) (hy.mono (by omega)) ?_)
  rw [← hE]
  simp (disch := omega) []
  refine CallK.of (by simp) (Level_call hn x e E ia hia (hx.mono (by omega)) hxe (by omega) fun i1 n1 g1 => ?_)
  simp (disch := omega) [g1]
  refine CallK.of (by simp) (Level_call (by omega) y f E ib (by omega) (hy.mono (by omega)) hyf (by omega) fun i2 n2 g2 => ?_)
  simp (disch := omega) [g1, g2]
  refine CallK.of (by simp) (refAdd_call (by omega) _ _ i1 i2 _ _ (by omega) (by omega) (Lim.dig _) (Lim.dig _) z (by rw [numW_dig, numW_dig, hsum]) fun i3 n3 g3 d3 => ?_)
  simp (disch := omega) [g1, g2, g3]
  refine CallK.of (by simp) (RefOfD2_call (by omega) z E i3 (newSid_lt d3 (by omega)) (sz1.mono (by omega)) (wrap_i64_is rfl (by omega)) fun i4 n4 g4 b4 => ?_)
  rw [wrapE sz1 (by omega)]
  have := hQ i4 n4 (by omega) b4
  simp only [D] at this
  simpa (disch := omega) [-wrap_i64_at, g1, g2, g3, g4] using ⟨by omega, this⟩
theorem RefSubD2_call {n : Nat} (hn : 0 < n) (x y e f : Int) (ia ib : Sid) (hia : ia.f < n) (hib : ib.f < n) (hx : sz x 512) (hy : sz y 512) (h1 : x = 0 → e = 0) (h2 : y = 0 → f = 0) (he : -16384 ≤ e ∧ e ≤ 16384) (hf : -16384 ≤ f ∧ f ≤ 16384) (hw : wideD x y e f = false) (sz1 : sz (sumZ x (-y) e f) 512) {Q : PV → Nat → List Nat → Prop}
    (hQ : ∀ (i' : Sid) (n' : Nat), n ≤ n' → i'.f < n' → Q (D (decide (dyM (sumZ x (-y) e f) < 0)) i' (dig (dyM (sumZ x (-y) e f)).natAbs) (if sumZ x (-y) e f = 0 then 0 else lowE x y e f + tz (sumZ x (-y) e f).natAbs)) n' []) : PCall Tryz.prog 28 [D (decide (x < 0)) ia (dig x.natAbs) e, D (decide (y < 0)) ib (dig y.natAbs) f] n Q := by
  have hw2 := wideD_neg x y e f
  have hlow := lowE_neg x y e f
  rw [← hlow] at hQ
  rw [hw] at hw2
  have hy2 := sz_neg hy
  refine of28 hn ?_
  simp (disch := omega) [c28]
  refine CallK.of (by simp) (RefNegD_call hn y f ib hib (hy.mono (by omega)) fun i' hi' => ?_)
  have hq0 : -y = 0 → f = 0 := fun h => h2 (by omega)
  generalize -y = y' at *
  simp (disch := omega) []
  refine CallK.of (by simp) (RefAddD2_call hn x y' e f ia i' hia hi' hx hy2 h1 hq0 he hf hw2 sz1 fun i1 n1 g1 b1 => ?_)
  have := hQ i1 n1 g1 b1
  simp only [D] at this
  simpa (disch := omega) [g1] using this
end Go.Proofs.YtphndngifjgeoaaGreatDoor

/-! SrB: The document's rounding, by value: numbers with one power; plain laws. -/
set_option linter.unusedVariables false
set_option linter.unusedSimpArgs false
set_option maxHeartbeats 2000000
set_option maxRecDepth 20000
namespace Go.Proofs.YtphndngifjgeoaaGreatDoor
open Go.Proofs

theorem cmpZ_dyM (z : Int) : cmpZ (dyM z) = cmpZ z := by
  by_cases h : z = 0
  · subst h; rfl
  · obtain ⟨h1, h2, _⟩ := dyM_back h
    have hp := two_pow_pos' (tz z.natAbs)
    rcases Int.lt_or_gt_of_ne h1 with h3 | h3
    · have : z < 0 := by rw [h2]; exact Int.mul_neg_of_neg_of_pos h3 hp
      have := cmpZ_cases z; have := cmpZ_cases (dyM z); omega
    · have : 0 < z := by rw [h2]; exact Int.mul_pos h3 hp
      have := cmpZ_cases z; have := cmpZ_cases (dyM z); omega
theorem dyE_range {v L : Int} {k : Nat} (hv : sz v k) (hL : -16384 ≤ L ∧ L + 32 * k ≤ 16384) : -16384 ≤ dyE v L ∧ dyE v L ≤ 16384 := by
  by_cases h : v = 0
  · subst h; simp [dyE]
  · have := dyE_le (L := L) h hv
    omega
theorem SubNV_call {n : Nat} (hn : 0 < n) {v w L : Int} {k : Nat} (ia ib : Sid) (hia : ia.f < n) (hib : ib.f < n) (hv : sz v k) (hw : sz w k) (hk : k ≤ 511) (hL : -16384 ≤ L ∧ L + 32 * k ≤ 16384) {Q : PV → Nat → List Nat → Prop}
    (hQ : ∀ (i' : Sid) (n' : Nat), n ≤ n' → i'.f < n' → Q (NV L (v - w) i') n' []) : PCall Tryz.prog 28 [NV L v ia, NV L w ib] n Q := by
  obtain ⟨a1, _, _, _⟩ := low_V (L := L) hv hw hk
  have hwn : sz (-w) k := by unfold sz at *; rw [Int.natAbs_neg]; exact hw
  obtain ⟨_, b2, b3, b4⟩ := low_V (L := L) hv hwn hk
  rw [dyM_neg, dyE_neg, ← Int.sub_eq_add_neg] at b2 b3
  rw [lowE_neg] at b3
  refine RefSubD2_call hn (dyM v) (dyM w) (dyE v L) (dyE w L) ia ib hia hib ((sz_dyM hv).mono (by omega)) ((sz_dyM hw).mono (by omega)) (fun h => dyE_zero h) (fun h => dyE_zero h) (dyE_range hv hL) (dyE_range hw hL) a1 (by rw [← dyM_neg, ← dyE_neg w]; exact b4) fun i' n' g b => ?_
  have := hQ i' n' g b
  simp only [NV, ← b2, ← b3] at this
  exact this
end Go.Proofs.YtphndngifjgeoaaGreatDoor

/-! SrC: The document's rounding, by value: the nearest multiple, the number. -/
set_option linter.unusedVariables false
set_option linter.unusedSimpArgs false
set_option maxHeartbeats 2000000
set_option maxRecDepth 20000
namespace Go.Proofs.YtphndngifjgeoaaGreatDoor
open Go.Proofs

theorem pow_lim (t k : Nat) (h : t < 32 * k) : 2 ^ t < 4294967296 ^ k := by
  have := Nat.pow_lt_pow_right (a := 2) (by omega) h
  rwa [Nat.pow_mul] at this
theorem NV_of {x E : Int} {i : Sid} (hM : dyM x = x) (ht : x ≠ 0 → tz x.natAbs = 0) (h0 : x ≠ 0) : D (decide (x < 0)) i (dig x.natAbs) E = NV E x i := by
  have : dyE x E = E := by unfold dyE; rw [if_neg h0, ht h0]; simp
  simp only [NV, this, hM]
theorem OfNV_call {n : Nat} (hn : 0 < n) (x e : Int) (i : Sid) (hi : i.f < n) (hx : sz x 200) (he : -20000 ≤ e ∧ e ≤ 20000) {Q : PV → Nat → List Nat → Prop}
    (hQ : ∀ (i' : Sid) (n' : Nat), n ≤ n' → i'.f < n' → Q (NV e x i') n' []) : PCall Tryz.prog 29 [W (decide (x < 0)) i (dig x.natAbs), .int .i64 e] n Q := by
  refine RefOfD2_call hn x e i hi (hx.mono (by omega)) (wrap_i64_is rfl (by omega)) fun i' n' g b => ?_
  have h := hQ i' n' g b
  have hE : (if x = 0 then 0 else IntKind.i64.wrap (e + tz x.natAbs)) = dyE x e := by
    unfold dyE
    by_cases h0 : x = 0
    · rw [if_pos h0, if_pos h0]
    · rw [if_neg h0, if_neg h0]
      have := tz_sz h0 hx
      exact wrap_i64_is rfl (by omega)
  rw [hE]
  exact h
end Go.Proofs.YtphndngifjgeoaaGreatDoor

/-! SnZ: A number's value as the document tells it: that what it answers with is no later one's (the proof of RefValue_call with one more fact; printed by wip/mkv.py). -/
set_option linter.unusedVariables false
set_option linter.unusedSimpArgs false
set_option maxHeartbeats 2000000
set_option maxRecDepth 20000
namespace Go.Proofs.YtphndngifjgeoaaGreatDoor
open Go.Proofs

theorem RefValue2_call {n : Nat} (hn : 0 < n) (b : Nat) (hb : b < 18446744073709551616) {Q : PV → Nat → List Nat → Prop}
    (hQ : ∀ (i : Sid) (n' : Nat), n ≤ n' → i.f < n' → Q (D (decide (dyM (valZ b) < 0)) i (dig (dyM (valZ b)).natAbs) (dyE (valZ b) (expo b))) n' []) : PCall Tryz.prog 47 [.int .u64 b] n Q := by
  have hm := mant_lt b
  have he := expo_le b
  have hp := bP_le b
  have hfr := bF_lt b
  have ha := valZ_abs b
  have hzs := sz_val b
  have hdef : valZ b = if bN b then -(mant b : Int) else mant b := rfl
  obtain ⟨z, hz⟩ : ∃ z, z = valZ b := ⟨_, rfl⟩
  obtain ⟨m, hmm⟩ : ∃ m, m = mant b := ⟨_, rfl⟩
  obtain ⟨e, hee⟩ : ∃ e, e = expo b := ⟨_, rfl⟩
  have hmd : m = if bP b = 0 then bF b else bF b + 4503599627370496 := hmm
  have hed : e = if bP b = 0 then -1074 else (bP b : Int) - 1075 := hee
  rw [← hz, ← hee] at hQ
  rw [← hz] at ha hdef hzs
  rw [← hmm] at ha hm hdef
  rw [← hee] at he
  have hwe : IntKind.i64.wrap e = e := wrap_i64_id e (by omega) (by omega)
  have hE : (if z = 0 then 0 else IntKind.i64.wrap (e + tz z.natAbs)) = dyE z e := by
    unfold dyE
    by_cases h : z = 0
    · rw [if_pos h, if_pos h]
    · have := tz_sz h hzs
      rw [if_neg h, if_neg h]; exact wrap_i64_id _ (by omega) (by omega)
  have hszm : ((m : Int)).natAbs = m := by simp
  have fin : ∀ (i1 : Sid) (n1 : Nat), n ≤ n1 → newSid n n1 i1 → ∀ {Q' : PV → Nat → List Nat → Prop}, (∀ (i : Sid) (n' : Nat), n1 ≤ n' → i.f < n' → Q' (D (decide (dyM z < 0)) i (dig (dyM z).natAbs) (dyE z e)) n' []) → PCall Tryz.prog 29 [W (decide (z < 0)) i1 (dig z.natAbs), .int .i64 e] n1 Q' := by
    intro i1 n1 g1 d1 Q' hq
    refine RefOfD2_call (by omega) z e i1 (newSid_lt d1 (by omega)) (hzs.mono (by omega)) hwe fun i' n' g b => ?_
    rw [hE]; exact hq i' n' g b
  have hlm : (dig m).length ≤ 2 := by have := hzs.len; rw [ha] at this; exact this
  have hnumm : numW false (dig m) = (m : Int) := by have := numW_dig (m : Int); simpa using this
  refine of47 hn ?_
  by_cases hp0 : bP b = 0
  · rw [if_pos hp0] at hmd hed
    subst hed
    simp (disch := omega) [c47]
    refine CallK.of (by simp) (RefFrac_call hn b hb ?_)
    rw [← hmd]
    simp (disch := omega) []
    refine CallK.of (by simp) (RefOf_call hn (m : Int) (by omega) (by omega) fun i1 n1 g1 d1 => ?_)
    have hm0 : decide ((m : Int) < 0) = false := by simp
    rw [hm0, hszm]
    simp (disch := omega) [g1]
    refine CallK.of (by simp) (RefPower_call (by omega) b hb ?_)
    simp (disch := omega) [g1, hp0]
    refine CallK.of (by simp) (RefNegB_call (by omega) b hb ?_)
    cases hsg : bN b
    · rw [hsg] at hdef
      have hzm : z = (m : Int) := by rw [hdef]; rfl
      simp (disch := omega) [g1]
      have h1 : decide (z < 0) = false := by rw [hzm]; simp
      have := fun {Q' : PV → Nat → List Nat → Prop} => fin i1 n1 (by omega) d1 (Q' := Q')
      rw [h1, ha] at this
      refine CallK.of (by simp) (this fun i9 n9 g9 b9 => ?_)
      have := hQ i9 n9 (by omega) b9
      simpa (disch := omega) [show n ≤ n9 by omega] using this
    · rw [hsg] at hdef
      have hzm : z = -(m : Int) := by rw [hdef]; rfl
      simp (disch := omega) [g1]
      refine CallK.of (by simp) (Neg_call (by omega) false i1 (dig m) (by omega) (Lim.dig _) z (by rw [hnumm]; exact hzm) fun i8 d8 => ?_)
      simp (disch := omega) [g1]
      refine CallK.of (by simp) (fin i8 n1 (by omega) (by rcases d8 with rfl | rfl; exact .inl rfl; exact d1) fun i9 n9 g9 b9 => ?_)
      have := hQ i9 n9 (by omega) b9
      simpa (disch := omega) [show n ≤ n9 by omega] using this
  · rw [if_neg hp0] at hmd hed
    simp (disch := omega) [c47]
    refine CallK.of (by simp) (RefFrac_call hn b hb ?_)
    simp (disch := omega) []
    refine CallK.of (by simp) (RefOf_call hn (bF b : Int) (by omega) (by omega) fun i1 n1 g1 d1 => ?_)
    simp (disch := omega) [g1]
    refine CallK.of (by simp) (RefPower_call (by omega) b hb ?_)
    have hpp : 0 < bP b := by omega
    simp (disch := omega) [g1, hpp]
    refine CallK.of (by simp) (RefFrac_call (by omega) b hb ?_)
    have hw1 : IntKind.u64.wrap ((bF b : Int) + 4503599627370496) = (m : Int) := by rw [hmd, wrap_u64_eq]; omega
    have hw2 : IntKind.i64.wrap (m : Int) = (m : Int) := wrap_i64_nat m (by omega)
    simp (disch := omega) [-wrap_u64_at, -wrap_i64_at, g1, hw1, hw2]
    refine CallK.of (by simp) (RefOf_call (by omega) (m : Int) (by omega) (by omega) fun i2 n2 g2 d2 => ?_)
    have hm0 : decide ((m : Int) < 0) = false := by simp
    rw [hm0, hszm]
    simp (disch := omega) [g1, g2]
    refine CallK.of (by simp) (RefPower_call (by omega) b hb ?_)
    have hw3 : IntKind.i64.wrap ((bP b : Int) - 1075) = e := by rw [hed]; exact wrap_i64_id _ (by omega) (by omega)
    simp (disch := omega) [-wrap_i64_at, g1, g2, hw3]
    refine CallK.of (by simp) (RefNegB_call (by omega) b hb ?_)
    cases hsg : bN b
    · rw [hsg] at hdef
      have hzm : z = (m : Int) := by rw [hdef]; rfl
      simp (disch := omega) [g1, g2]
      have h1 : decide (z < 0) = false := by rw [hzm]; simp
      have := fun {Q' : PV → Nat → List Nat → Prop} => fin i2 n2 (by omega) (newSid_le g1 d2) (Q' := Q')
      rw [h1, ha] at this
      refine CallK.of (by simp) (this fun i9 n9 g9 b9 => ?_)
      have := hQ i9 n9 (by omega) b9
      simpa (disch := omega) [show n ≤ n9 by omega] using this
    · rw [hsg] at hdef
      have hzm : z = -(m : Int) := by rw [hdef]; rfl
      simp (disch := omega) [g1, g2]
      refine CallK.of (by simp) (Neg_call (by omega) false i2 (dig m) (by omega) (Lim.dig _) z (by rw [hnumm]; exact hzm) fun i8 d8 => ?_)
      simp (disch := omega) [g1, g2]
      refine CallK.of (by simp) (fin i8 n2 (by omega) (by rcases d8 with rfl | rfl; exact .inl rfl; exact (newSid_le g1 d2)) fun i9 n9 g9 b9 => ?_)
      have := hQ i9 n9 (by omega) b9
      simpa (disch := omega) [show n ≤ n9 by omega] using this
end Go.Proofs.YtphndngifjgeoaaGreatDoor
