/- Bits of 0 at a number's end: plain laws, and the functions that count them. -/
import Derived.Test.YtaankihkejodgaaDoorCtO
set_option linter.unusedVariables false
set_option linter.unusedSimpArgs false
namespace Go.Proofs.YtaankihkejodgaaDoor
open Go.Proofs

/-- How many bits at a number's end are 0. -/
def tz (v : Nat) : Nat := if h : v = 0 ∨ v % 2 = 1 then 0 else tz (v / 2) + 1
  termination_by v
  decreasing_by omega
theorem tz_odd {v : Nat} (h : v % 2 = 1) : tz v = 0 := by rw [tz, dif_pos (.inr h)]
theorem tz_even {v : Nat} (h0 : v ≠ 0) (h : v % 2 = 0) : tz v = tz (v / 2) + 1 := by rw [tz, dif_neg (by omega)]
theorem tz_mul (k : Nat) {o : Nat} (ho : o % 2 = 1) : tz (2 ^ k * o) = k := by
  induction k with
  | zero => rw [Nat.pow_zero, Nat.one_mul, tz_odd ho]
  | succ k ih =>
    have e : 2 ^ (k + 1) * o = 2 * (2 ^ k * o) := by rw [Nat.pow_succ, Nat.mul_comm (2 ^ k) 2, Nat.mul_assoc]
    have hp : 0 < 2 ^ k * o := Nat.mul_pos (Nat.pos_of_ne_zero (by simp)) (by omega)
    rw [e, tz_even (by omega) (by omega), show 2 * (2 ^ k * o) / 2 = 2 ^ k * o by omega, ih]
theorem tz_split {v : Nat} (h : v ≠ 0) : ∃ o, o % 2 = 1 ∧ v = 2 ^ tz v * o := by
  induction v using Nat.strongRecOn with
  | _ v ih =>
    by_cases ho : v % 2 = 1
    · exact ⟨v, ho, by rw [tz_odd ho]; simp⟩
    · obtain ⟨o, h1, h2⟩ := ih (v / 2) (by omega) (by omega)
      refine ⟨o, h1, ?_⟩
      rw [tz_even h (by omega), Nat.pow_succ, Nat.mul_comm (2 ^ tz (v / 2)) 2, Nat.mul_assoc, ← h2]
      omega
theorem tz_lt {v n : Nat} (h : v ≠ 0) (hv : v < 2 ^ n) : tz v < n := by
  obtain ⟨o, h1, h2⟩ := tz_split h
  rcases Nat.lt_or_ge (tz v) n with hh | hh
  · exact hh
  · have h3 : 2 ^ n ≤ 2 ^ tz v := Nat.pow_le_pow_right (by omega) hh
    have h4 : 2 ^ tz v * 1 ≤ 2 ^ tz v * o := Nat.mul_le_mul_left _ (by omega)
    omega
/-- A number whose lowest limbs are 0. -/
theorem tz_limb {i x r : Nat} (hx : x ≠ 0) (hl : x < 4294967296) : tz (4294967296 ^ i * (x + 4294967296 * r)) = 32 * i + tz x := by
  obtain ⟨o, h1, h2⟩ := tz_split hx
  have h3 := tz_lt (n := 32) hx hl
  have e : 4294967296 ^ i * (x + 4294967296 * r) = 2 ^ (32 * i + tz x) * (o + 2 ^ (32 - tz x) * r) := by
    have e2 : (4294967296 : Nat) = 2 ^ tz x * 2 ^ (32 - tz x) := by rw [← Nat.pow_add, show tz x + (32 - tz x) = 32 by omega]
    have e3 : x + 4294967296 * r = 2 ^ tz x * (o + 2 ^ (32 - tz x) * r) := by
      rw [Nat.mul_add, ← h2, ← Nat.mul_assoc, ← e2]
    rw [e3, Nat.pow_add, Nat.pow_mul, Nat.mul_assoc]
  rw [e, tz_mul]
  have e4 : 2 ^ (32 - tz x) = 2 * 2 ^ (31 - tz x) := by rw [show 32 - tz x = 31 - tz x + 1 by omega, Nat.pow_succ, Nat.mul_comm]
  rw [e4, Nat.mul_assoc]
  omega

theorem land_neg {x : Nat} (h : x ≠ 0) (hl : x < 4294967296) : x &&& (4294967296 - x) = 2 ^ tz x := by
  obtain ⟨o, h1, h2⟩ := tz_split h
  obtain ⟨k, hk⟩ : ∃ k, k = tz x := ⟨_, rfl⟩
  have h3 := tz_lt (n := 32) h hl
  rw [← hk] at h2 h3 ⊢
  obtain ⟨j, hj⟩ : ∃ j, o = 2 * j + 1 := ⟨o / 2, by omega⟩
  have hP : 0 < 2 ^ k := Nat.pos_of_ne_zero (by simp)
  have ex : x = 2 ^ (k + 1) * j + 2 ^ k := by rw [h2, hj, Nat.mul_add, Nat.pow_succ, Nat.mul_one, Nat.mul_assoc]
  have ex1 : x - 1 = 2 ^ (k + 1) * j + (2 ^ k - 1) := by omega
  have hlt : 2 ^ k < 2 ^ (k + 1) := by rw [Nat.pow_succ]; omega
  apply Nat.eq_of_testBit_eq
  intro i
  rw [Nat.testBit_and, show 4294967296 - x = 2 ^ 32 - (x - 1 + 1) by omega, Nat.testBit_two_pow_sub_succ (by omega), ex1]
  rw [show x.testBit i = (2 ^ (k + 1) * j + 2 ^ k).testBit i by rw [← ex]]
  rw [Nat.testBit_two_pow_mul_add _ hlt, Nat.testBit_two_pow_mul_add _ (by omega)]
  by_cases hi : i < k + 1
  · rw [if_pos hi, if_pos hi, Nat.testBit_two_pow, Nat.testBit_two_pow_sub_one]
    by_cases hik : k = i
    · subst hik; simp; omega
    · simp [hik]
  · rw [if_neg hi, if_neg hi, Nat.testBit_two_pow]
    have : ¬ k = i := by omega
    simp [this]
    intro h; simp [h]

def isU8 (o : Option PV) (k : Nat) : Bool := match o with | some (.int .u8 n) => n == (k : Int) | _ => false
theorem isU8_eq {o : Option PV} {k : Nat} (h : isU8 o k = true) : o = some (.int .u8 (k : Int)) := by
  unfold isU8 at h
  split at h
  · simp at h; rw [h]
  · cases h
theorem tz_tab : (List.range 32).all (fun k => isU8 ((tabOf 0).bind fun cs => cs[2 ^ k * 125613361 % 4294967296 / 134217728]?) k) = true := by kernel_rfl
theorem tz_at {k : Nat} (hk : k < 32) : ∃ T, tabOf 0 = some T ∧ T[2 ^ k * 125613361 % 4294967296 / 134217728]? = some (.int .u8 (k : Int)) := by
  have h := isU8_eq (List.all_eq_true.1 tz_tab k (List.mem_range.2 hk))
  obtain ⟨T, h1, h2⟩ := Option.bind_eq_some_iff.1 h
  exact ⟨T, h1, h2⟩
theorem wrap_u8_i64 (k : Nat) (h : k < 4294967296) : IntKind.i64.wrap (k : Int) = (k : Int) := wrap_i64_is rfl (by omega)

theorem TZ32_call {n : Nat} (hn : 0 < n) (x : Nat) (hx : x < 4294967296) (h0 : x ≠ 0) {Q : PV → Nat → List Nat → Prop}
    (hQ : Q (.int .i64 (tz x : Nat)) n []) : PCall Tryd.prog 70 [.int .u32 x] n Q := by
  refine of70 hn ?_
  have ht := tz_lt (n := 32) h0 hx
  obtain ⟨T, hT, hTk⟩ := tz_at ht
  obtain ⟨y, hy⟩ : ∃ y, y = 4294967296 - x := ⟨_, rfl⟩
  obtain ⟨p, hp⟩ : ∃ p, p = 2 ^ tz x := ⟨_, rfl⟩
  have hland : x &&& y = p := by rw [hy, hp]; exact land_neg h0 hx
  have hpl : p < 4294967296 := by rw [hp]; exact Nat.pow_lt_pow_right (by omega) ht
  obtain ⟨m, hm⟩ : ∃ m, m = p * 125613361 % 4294967296 := ⟨_, rfl⟩
  obtain ⟨q, hq⟩ : ∃ q, q = m / 134217728 := ⟨_, rfl⟩
  rw [← hp, ← hm, ← hq] at hTk
  have hn1 : IntKind.u32.wrap (-(x : Int)) = (y : Int) := by rw [wrap_u32_eq]; omega
  have hand : binPV Tryd.prog .and 49 (.int .u32 (x : Int)) (.int .u32 (y : Int)) = some (.int .u32 (p : Int)) := by
    rw [binPV_and, bits_u32, BitVec.ofInt_natCast, BitVec.ofInt_natCast, BitVec.toNat_and, BitVec.toNat_ofNat, BitVec.toNat_ofNat, Nat.mod_eq_of_lt (by omega), Nat.mod_eq_of_lt (by omega), hland, wrap_u32_nat _ hpl]
  have hmul : IntKind.u32.wrap ((p : Int) * 125613361) = (m : Int) := by rw [wrap_u32_eq]; omega
  have hdiv : (m : Int) / 134217728 = (q : Int) := by omega
  have hql : q < 32 := by omega
  have hx0 : ¬ x = 0 := h0
  simpa (disch := omega) [-binPV_and, -wrap_u32_at, c70, hx0, hn1, hand, hmul, hdiv, hql, hT, hTk] using hQ
end Go.Proofs.YtaankihkejodgaaDoor
