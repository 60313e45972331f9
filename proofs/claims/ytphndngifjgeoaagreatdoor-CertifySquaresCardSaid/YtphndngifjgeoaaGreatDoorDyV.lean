/- Several texts as one: DyA, DyB, DyC, DyD, DyE, DlA, DlB, DyF, DyG, DyH, DyI. -/
import Derived.Test.YtphndngifjgeoaaGreatDoorCtV
/-! DyA: Bits of 0 at a number's end: plain laws, and the functions that count them. -/
set_option linter.unusedVariables false
set_option linter.unusedSimpArgs false
namespace Go.Proofs.YtphndngifjgeoaaGreatDoor
open Go.Proofs

/-- How many bits at a number's end are 0. -/
def tz (v : Nat) : Nat := if h : v = 0 ∨ v % 2 = 1 then 0 else tz (v / 2) + 1
  termination_by v
  decreasing_by omega
theorem tz_odd {v : Nat} (h : v % 2 = 1) : tz v = 0 := by rw [tz, dif_pos (.inr h)]
theorem tz_even {v : Nat} (h0 : v ≠ 0) (h : v % 2 = 0) : tz v = tz (v / 2) + 1 := by rw [tz, dif_neg (by omega)]
theorem tz_mul (k : Nat) {o : Nat} (ho : o % 2 = 1) : tz (2 ^ k * o) = k := by
  induction k with
  | zero => rw [Nat.pow_zero, Nat.one_mul, tz_odd ho]
  | succ k ih =>
    have e : 2 ^ (k + 1) * o = 2 * (2 ^ k * o) := by rw [Nat.pow_succ, Nat.mul_comm (2 ^ k) 2, Nat.mul_assoc]
    have hp : 0 < 2 ^ k * o := Nat.mul_pos (Nat.pos_of_ne_zero (by simp)) (by omega)
    rw [e, tz_even (by omega) (by omega), show 2 * (2 ^ k * o) / 2 = 2 ^ k * o by omega, ih]
theorem tz_split {v : Nat} (h : v ≠ 0) : ∃ o, o % 2 = 1 ∧ v = 2 ^ tz v * o := by
  induction v using Nat.strongRecOn with
  | _ v ih =>
    by_cases ho : v % 2 = 1
    · exact ⟨v, ho, by rw [tz_odd ho]; simp⟩
    · obtain ⟨o, h1, h2⟩ := ih (v / 2) (by omega) (by omega)
      refine ⟨o, h1, ?_⟩
      rw [tz_even h (by omega), Nat.pow_succ, Nat.mul_comm (2 ^ tz (v / 2)) 2, Nat.mul_assoc, ← h2]
      omega
theorem tz_lt {v n : Nat} (h : v ≠ 0) (hv : v < 2 ^ n) : tz v < n := by
  obtain ⟨o, h1, h2⟩ := tz_split h
  rcases Nat.lt_or_ge (tz v) n with hh | hh
  · exact hh
  · have h3 : 2 ^ n ≤ 2 ^ tz v := Nat.pow_le_pow_right (by omega) hh
    have h4 : 2 ^ tz v * 1 ≤ 2 ^ tz v * o := Nat.mul_le_mul_left _ (by omega)
    omega
/-- A number whose lowest limbs are 0. -/
theorem tz_limb {i x r : Nat} (hx : x ≠ 0) (hl : x < 4294967296) : tz (4294967296 ^ i * (x + 4294967296 * r)) = 32 * i + tz x := by
  obtain ⟨o, h1, h2⟩ := tz_split hx
  have h3 := tz_lt (n := 32) hx hl
  have e : 4294967296 ^ i * (x + 4294967296 * r) = 2 ^ (32 * i + tz x) * (o + 2 ^ (32 - tz x) * r) := by
    have e2 : (4294967296 : Nat) = 2 ^ tz x * 2 ^ (32 - tz x) := by rw [← Nat.pow_add, show tz x + (32 - tz x) = 32 by omega]
    have e3 : x + 4294967296 * r = 2 ^ tz x * (o + 2 ^ (32 - tz x) * r) := by
      rw [Nat.mul_add, ← h2, ← Nat.mul_assoc, ← e2]
    rw [e3, Nat.pow_add, Nat.pow_mul, Nat.mul_assoc]
  rw [e, tz_mul]
  have e4 : 2 ^ (32 - tz x) = 2 * 2 ^ (31 - tz x) := by rw [show 32 - tz x = 31 - tz x + 1 by omega, Nat.pow_succ, Nat.mul_comm]
  rw [e4, Nat.mul_assoc]
  omega

theorem land_neg {x : Nat} (h : x ≠ 0) (hl : x < 4294967296) : x &&& (4294967296 - x) = 2 ^ tz x := by
  obtain ⟨o, h1, h2⟩ := tz_split h
  obtain ⟨k, hk⟩ : ∃ k, k = tz x := ⟨_, rfl⟩
  have h3 := tz_lt (n := 32) h hl
  rw [← hk] at h2 h3 ⊢
  obtain ⟨j, hj⟩ : ∃ j, o = 2 * j + 1 := ⟨o / 2, by omega⟩
  have hP : 0 < 2 ^ k := Nat.pos_of_ne_zero (by simp)
  have ex : x = 2 ^ (k + 1) * j + 2 ^ k := by rw [h2, hj, Nat.mul_add, Nat.pow_succ, Nat.mul_one, Nat.mul_assoc]
  have ex1 : x - 1 = 2 ^ (k + 1) * j + (2 ^ k - 1) := by omega
  have hlt : 2 ^ k < 2 ^ (k + 1) := by rw [Nat.pow_succ]; omega
  apply Nat.eq_of_testBit_eq
  intro i
  rw [Nat.testBit_and, show 4294967296 - x = 2 ^ 32 - (x - 1 + 1) by omega, Nat.testBit_two_pow_sub_succ (by omega), ex1]
  rw [show x.testBit i = (2 ^ (k + 1) * j + 2 ^ k).testBit i by rw [← ex]]
  rw [Nat.testBit_two_pow_mul_add _ hlt, Nat.testBit_two_pow_mul_add _ (by omega)]
  by_cases hi : i < k + 1
  · rw [if_pos hi, if_pos hi, Nat.testBit_two_pow, Nat.testBit_two_pow_sub_one]
    by_cases hik : k = i
    · subst hik; simp; omega
    · simp [hik]
  · rw [if_neg hi, if_neg hi, Nat.testBit_two_pow]
    have : ¬ k = i := by omega
    simp [this]
    intro h; simp [h]

def isU8 (o : Option PV) (k : Nat) : Bool := match o with | some (.int .u8 n) => n == (k : Int) | _ => false
theorem isU8_eq {o : Option PV} {k : Nat} (h : isU8 o k = true) : o = some (.int .u8 (k : Int)) := by
  unfold isU8 at h
  split at h
  · simp at h; rw [h]
  · cases h
theorem tz_tab : (List.range 32).all (fun k => isU8 ((tabOf 0).bind fun cs => cs[2 ^ k * 125613361 % 4294967296 / 134217728]?) k) = true := by kernel_rfl
theorem tz_at {k : Nat} (hk : k < 32) : ∃ T, tabOf 0 = some T ∧ T[2 ^ k * 125613361 % 4294967296 / 134217728]? = some (.int .u8 (k : Int)) := by
  have h := isU8_eq (List.all_eq_true.1 tz_tab k (List.mem_range.2 hk))
  obtain ⟨T, h1, h2⟩ := Option.bind_eq_some_iff.1 h
  exact ⟨T, h1, h2⟩
theorem wrap_u8_i64 (k : Nat) (h : k < 4294967296) : IntKind.i64.wrap (k : Int) = (k : Int) := wrap_i64_is rfl (by omega)

theorem TZ32_call {n : Nat} (hn : 0 < n) (x : Nat) (hx : x < 4294967296) (h0 : x ≠ 0) {Q : PV → Nat → List Nat → Prop}
    (hQ : Q (.int .i64 (tz x : Nat)) n []) : PCall Tryz.prog 99 [.int .u32 x] n Q := by
  refine of99 hn ?_
  have ht := tz_lt (n := 32) h0 hx
  obtain ⟨T, hT, hTk⟩ := tz_at ht
  obtain ⟨y, hy⟩ : ∃ y, y = 4294967296 - x := ⟨_, rfl⟩
  obtain ⟨p, hp⟩ : ∃ p, p = 2 ^ tz x := ⟨_, rfl⟩
  have hland : x &&& y = p := by rw [hy, hp]; exact land_neg h0 hx
  have hpl : p < 4294967296 := by rw [hp]; exact Nat.pow_lt_pow_right (by omega) ht
  obtain ⟨m, hm⟩ : ∃ m, m = p * 125613361 % 4294967296 := ⟨_, rfl⟩
  obtain ⟨q, hq⟩ : ∃ q, q = m / 134217728 := ⟨_, rfl⟩
  rw [← hp, ← hm, ← hq] at hTk
  have hn1 : IntKind.u32.wrap (-(x : Int)) = (y : Int) := by rw [wrap_u32_eq]; omega
  have hand : binPV Tryz.prog .and 56 (.int .u32 (x : Int)) (.int .u32 (y : Int)) = some (.int .u32 (p : Int)) := by
    rw [binPV_and, bits_u32, BitVec.ofInt_natCast, BitVec.ofInt_natCast, BitVec.toNat_and, BitVec.toNat_ofNat, BitVec.toNat_ofNat, Nat.mod_eq_of_lt (by omega), Nat.mod_eq_of_lt (by omega), hland, wrap_u32_nat _ hpl]
  have hmul : IntKind.u32.wrap ((p : Int) * 125613361) = (m : Int) := by rw [wrap_u32_eq]; omega
  have hdiv : (m : Int) / 134217728 = (q : Int) := by omega
  have hql : q < 32 := by omega
  have hx0 : ¬ x = 0 := h0
  simpa (disch := omega) [-binPV_and, -wrap_u32_at, c99, hx0, hn1, hand, hmul, hdiv, hql, hT, hTk] using hQ
end Go.Proofs.YtphndngifjgeoaaGreatDoor

/-! DyB: What the functions of layer 2 do, by value: numbers are made. -/
set_option linter.unusedVariables false
set_option linter.unusedSimpArgs false
namespace Go.Proofs.YtphndngifjgeoaaGreatDoor
open Go.Proofs

/-- A dyadic number: its whole one, its power. -/
@[simp] abbrev D (neg : Bool) (i : Sid) (l : List Nat) (e : Int) : PV := .agg [.bool neg, .sl i 1 (u32s l), .int .i64 e]

def zerosI (neg : Bool) (i : Sid) (l : List Nat) (n : Nat) (k : Nat) (s : St) : Prop :=
  ∃ j : Nat, j + k = l.length ∧ val (l.take j) = 0 ∧ At s 21 [[.bool neg, .sl i 1 (u32s l)]] n [(1, .box 0 0), (6, .sl i 1 (u32s l)), (7, .int .i64 l.length), (8, .int .i64 j)]
theorem zeros_call {n : Nat} (hn : 0 < n) (neg : Bool) (i : Sid) (l : List Nat) (hl : l.length < 35184372088800) (ll : Lim l) {Q : PV → Nat → List Nat → Prop}
    (hQ : Q (.int .i64 (if val l = 0 then 0 else tz (val l) : Nat)) n []) : PCall Tryz.prog 95 [W neg i l] n Q := by
  refine of95 hn ?_
  simp (disch := omega) [c95]
  refine GO_loopN (zerosI neg i l n) l.length ⟨0, by omega, by simp, by simp [At]⟩ ?_
  rintro k s ⟨j, hj, hv, ⟨e1, e2, e3, e4, e5⟩⟩
  simp at e5
  obtain ⟨e5, e6, e7, e8⟩ := e5
  by_cases hk : j < l.length
  · have hx := ll.get hk
    obtain ⟨x, hx0⟩ : ∃ x, x = l[j] := ⟨_, rfl⟩
    rw [← hx0] at hx
    by_cases h0 : x = 0
    · subst h0
      simp (disch := omega) [c95L0, e1, e2, e3, e4, e5, e6, e7, e8, hk, ← hx0]
      refine ⟨k - 1, by omega, j + 1, by omega, ?_, by simp [At, e1, e2, e3, e4, e5, e6, e7, e8]⟩
      rw [val_take_succ, hv]; simp [List.getD, hk, ← hx0]
    · have hvl : val l = 4294967296 ^ j * (x + 4294967296 * val (l.drop (j + 1))) := by
        have := val_split l j
        rw [hv, List.drop_eq_getElem_cons hk, val_cons, ← hx0] at this
        omega
      have htz := tz_limb (i := j) (r := val (l.drop (j + 1))) h0 hx
      rw [← hvl] at htz
      have hvp : ¬ val l = 0 := by
        rw [hvl]
        have : 0 < 4294967296 ^ j * (x + 4294967296 * val (l.drop (j + 1))) := Nat.mul_pos (Nat.pos_of_ne_zero (by simp)) (by omega)
        omega
      rw [if_neg hvp, htz] at hQ
      have htl := tz_lt (n := 32) h0 hx
      obtain ⟨c0, hc0⟩ : ∃ c0, c0 = 32 * j := ⟨_, rfl⟩
      have hw : IntKind.i64.wrap (32 * (j : Int)) = (c0 : Int) := wrap_i64_is (by omega) (by omega)
      simp (disch := omega) [-wrap_i64_at, c95L0, e1, e2, e3, e4, e5, e6, e7, e8, hk, ← hx0, h0, hw]
      refine CallK.of (by simp) (TZ32_call (by omega) x hx h0 ?_)
      have hs : (c0 : Int) + (tz x : Nat) = ((32 * j + tz x : Nat) : Int) := by omega
      rw [← hs] at hQ
      simpa (disch := omega) [e1, e2, e3, e4, e5, e6, e7, e8] using hQ
  · rw [List.take_of_length_le (by omega)] at hv
    rw [if_pos hv] at hQ
    simpa (disch := omega) [c95L0, c95R0, e1, e2, e3, e4, e5, e6, e7, e8, hk] using hQ

/-- A whole number times a power of two: what is odd of it, and the power. -/
def dyM (x : Int) : Int := if x = 0 then 0 else shZ x (-(tz x.natAbs : Int))
def dyE (x e : Int) : Int := if x = 0 then 0 else e + tz x.natAbs
/-- May the number be? -/
def dyOk (x e : Int) : Bool := decide (x = 0) || (decide (-16384 ≤ dyE x e) && decide (dyE x e ≤ 16384))

theorem dyM_abs {x : Int} (h : x ≠ 0) : ∃ o, o % 2 = 1 ∧ x.natAbs = 2 ^ tz x.natAbs * o ∧ (dyM x).natAbs = o := by
  obtain ⟨o, h1, h2⟩ := tz_split (v := x.natAbs) (by omega)
  refine ⟨o, h1, h2, ?_⟩
  have hP : 0 < 2 ^ tz x.natAbs := Nat.pos_of_ne_zero (by simp)
  unfold dyM
  rw [if_neg h, shZ_abs]
  by_cases h0 : tz x.natAbs = 0
  · rw [if_pos (by omega)]
    rw [h0] at h2
    rw [h0]; simp at h2 ⊢; exact h2
  · rw [if_neg (by omega), Int.neg_neg, Int.toNat_natCast]
    generalize tz x.natAbs = k at *
    rw [h2, Nat.mul_div_cancel_left _ hP]
theorem sz_dyM {x : Int} {k : Nat} (h : sz x k) : sz (dyM x) k := by
  by_cases h0 : x = 0
  · subst h0; simpa [dyM] using h
  · obtain ⟨o, h1, h2, h3⟩ := dyM_abs h0
    have hP : 0 < 2 ^ tz x.natAbs := Nat.pos_of_ne_zero (by simp)
    refine h.le ?_
    rw [h3, h2]
    generalize 2 ^ tz x.natAbs = p at *
    exact Nat.le_mul_of_pos_left o hP
theorem tz_sz {x : Int} {k : Nat} (h0 : x ≠ 0) (h : sz x k) : tz x.natAbs < 32 * k := by
  refine tz_lt (by omega) ?_
  unfold sz at h
  rwa [Nat.pow_mul]

theorem dyof_call {n : Nat} (hn : 0 < n) (x e : Int) (i : Sid) (hx : sz x 512) (he : -1000000 ≤ e ∧ e ≤ 1000000) {Q : PV → Nat → List Nat → Prop}
    (hQ : ∀ (i' : Sid) (n' : Nat), n ≤ n' → newSid n n' i' → Q (if dyOk x e then .tup [D (decide (dyM x < 0)) i' (dig (dyM x).natAbs) (dyE x e), .int .i64 0] else .tup [D false ⟨0, 0, 0⟩ [] 0, .int .i64 2]) n' []) : PCall Tryz.prog 83 [W (decide (x < 0)) i (dig x.natAbs), .int .i64 e] n Q := by
  have hl := hx.len
  refine of83 hn ?_
  by_cases h0 : x = 0
  · subst h0
    have := hQ ⟨0, 0, 0⟩ n (by omega) (.inl rfl)
    simp [dyOk, dyM, dyE, dig_zero] at this
    simpa (disch := omega) [c83, dig_zero] using this
  · obtain ⟨hd, hd2⟩ := dig_ne h0
    have htz := tz_sz h0 hx
    have hM : dyM x = shZ x (-(tz x.natAbs : Int)) := by simp [dyM, h0]
    have hE : dyE x e = e + tz x.natAbs := by simp [dyE, h0]
    have hok : dyOk x e = (decide (-16384 ≤ dyE x e) && decide (dyE x e ≤ 16384)) := by simp [dyOk, h0]
    obtain ⟨z, hz⟩ : ∃ z, z = tz x.natAbs := ⟨_, rfl⟩
    rw [← hz] at htz hM hE
    simp (disch := omega) [c83, hd2]
    refine CallK.of (by simp) (zeros_call hn _ i _ (by omega) (Lim.dig _) ?_)
    rw [val_dig, if_neg (by omega), ← hz]
    have hw : IntKind.i64.wrap (-(z : Int)) = -(z : Int) := wrap_i64_is (by omega) (by omega)
    have hwe : IntKind.i64.wrap (e + (z : Int)) = e + z := wrap_i64_is (by omega) (by omega)
    simp (disch := omega) [-wrap_i64_at, hw]
    refine CallK.of (by simp) (Shift_Z (by omega) x (dyM x) (-(z : Int)) i hx hM.symm (sz_dyM hx) (by omega) fun i1 n1 g1 d1 => ?_)
    have hQ := hQ i1 n1 g1 d1
    rw [hok, hE] at hQ
    by_cases c1 : e + (z : Int) < -16384
    · rw [if_neg (by simp; omega)] at hQ
      simpa (disch := omega) [-wrap_i64_at, g1, hwe, c1] using hQ
    · by_cases c2 : 16384 < e + (z : Int)
      · rw [if_neg (by simp; omega)] at hQ
        simpa (disch := omega) [-wrap_i64_at, g1, hwe, c1, c2] using hQ
      · rw [if_pos (by simp; omega)] at hQ
        simpa (disch := omega) [-wrap_i64_at, g1, hwe, c1, c2] using hQ

theorem far_call {n : Nat} (hn : 0 < n) (e : Int) {Q : PV → Nat → List Nat → Prop} (hQ : Q (.bool (decide (e < -32768) || decide (32768 < e))) n []) : PCall Tryz.prog 82 [.int .i64 e] n Q := by
  refine of82 hn ?_
  by_cases h1 : e < -32768
  · simpa [c82, h1] using hQ
  · simpa [c82, h1] using hQ

theorem Make_call {n : Nat} (hn : 0 < n) (na : Bool) (ia : Sid) (a : List Nat) (ha : a.length < 35184372088800) (la : Lim a) (e : Int) {Q : PV → Nat → List Nat → Prop}
    (h0 : rightW na a = false → Q (.tup [D false ⟨0, 0, 0⟩ [] 0, .int .i64 1]) n [])
    (h1 : rightW na a = true → (e < -32768 ∨ 32768 < e) → Q (.tup [D false ⟨0, 0, 0⟩ [] 0, .int .i64 2]) n [])
    (hQ : rightW na a = true → (-32768 ≤ e ∧ e ≤ 32768) → ∀ (i' : Sid) (n' : Nat), n ≤ n' → newSid n n' i' → Q (if dyOk (numW na a) e then .tup [D (decide (dyM (numW na a) < 0)) i' (dig (dyM (numW na a)).natAbs) (dyE (numW na a) e), .int .i64 0] else .tup [D false ⟨0, 0, 0⟩ [] 0, .int .i64 2]) n' []) : PCall Tryz.prog 60 [W na ia a, .int .i64 e] n Q := by
  refine of60 hn ?_
  simp (disch := omega) [c60]
  refine CallK.of (by simp) (Check_call hn na ia a (by omega) ?_)
  by_cases hr : rightW na a = true
  · simp (disch := omega) [hr]
    refine CallK.of (by simp) (far_call hn e ?_)
    by_cases c1 : e < -32768
    · simpa [c1] using h1 hr (.inl c1)
    · by_cases c2 : 32768 < e
      · simpa [c1, c2] using h1 hr (.inr c2)
      · simp (disch := omega) [c1, c2]
        have hQ := hQ hr (by omega)
        obtain ⟨x, rfl, rfl⟩ := right_Z hr la
        rw [numW_dig] at hQ
        refine CallK.of (by simp) (dyof_call hn x e ia ((sz_dig x).mono (rightW_top hr).2.1) (by omega) fun i' n' g1 d1 => ?_)
        have hQ := hQ i' n' g1 d1
        cases hd : dyOk x e
        · simp [hd] at hQ
          simpa (disch := omega) [g1] using hQ
        · simp [hd] at hQ
          simpa (disch := omega) [g1] using hQ
  · rw [Bool.not_eq_true] at hr
    simpa [hr] using h0 hr
end Go.Proofs.YtphndngifjgeoaaGreatDoor

/-! DyC: What the functions of layer 2 do, by value: right numbers, the reference's numbers. -/
set_option linter.unusedVariables false
set_option linter.unusedSimpArgs false
namespace Go.Proofs.YtphndngifjgeoaaGreatDoor
open Go.Proofs

/-- Is a number odd? -/
def oddL (l : List Nat) : Bool := decide (l.getD 0 0 % 2 = 1)
theorem Odd_call {n : Nat} (hn : 0 < n) (neg : Bool) (i : Sid) (l : List Nat) (hl : l.length < 35184372088800) (ll : Lim l) {Q : PV → Nat → List Nat → Prop} (hQ : Q (.bool (oddL l)) n []) : PCall Tryz.prog 51 [W neg i l] n Q := by
  refine of51 hn ?_
  cases l with
  | nil => simpa [c51, oddL] using hQ
  | cons x t =>
    have hx := ll.head
    have h1 : (0 : Nat) < (x :: t).length := by simp
    have h2 : IntKind.u32.wrap ((x : Int).tmod 2) = (x : Int) % 2 := by rw [Int.tmod_eq_emod_of_nonneg (by omega), wrap_u32_eq]; omega
    have h3 : (x : Int).tmod 2 = ((x % 2 : Nat) : Int) := by rw [Int.tmod_eq_emod_of_nonneg (by omega)]; omega
    by_cases ho : x % 2 = 1
    · simp [oddL, ho] at hQ
      have h4 : (x : Int).tmod 2 = 1 := by rw [Int.tmod_eq_emod_of_nonneg (by omega)]; omega
      simpa (disch := omega) [c51, h1, h4] using hQ
    · simp [oddL, ho] at hQ
      have h4 : (x : Int).tmod 2 = 0 := by rw [Int.tmod_eq_emod_of_nonneg (by omega)]; omega
      simpa (disch := omega) [c51, h1, h4] using hQ

def rightD (neg : Bool) (l : List Nat) (e : Int) : Bool := rightW neg l && (if l = [] then decide (e = 0) else oddL l && (decide (-16384 ≤ e) && decide (e ≤ 16384)))
theorem SameD_call {n : Nat} (hn : 0 < n) (na nb : Bool) (ia ib : Sid) (a b : List Nat) (e f : Int) (ha : a.length < 35184372088800) {Q : PV → Nat → List Nat → Prop} (hQ : Q (.bool (decide (e = f) && (na == nb && decide (a = b)))) n []) : PCall Tryz.prog 21 [D na ia a e, D nb ib b f] n Q := by
  refine of21 hn ?_
  by_cases h : e = f
  · subst h
    simp at hQ
    simp (disch := omega) [c21]
    refine CallK.of (by simp) (Same_call hn na nb ia ib a b (by omega) ?_)
    simpa using hQ
  · have h' : (e == f) = false := by simpa using h
    simp [h] at hQ
    simpa [c21, h, h'] using hQ

theorem wrap_i64_full (x : Int) : IntKind.i64.wrap x = (x + 9223372036854775808) % 18446744073709551616 - 9223372036854775808 := by
  simp [IntKind.wrap, IntKind.bits, IntKind.signed]; omega
theorem odd_dig {x : Int} : oddL (dig x.natAbs) = decide (x.natAbs % 2 = 1) := by
  by_cases h : x = 0
  · subst h; simp [oddL, dig_zero]
  · rw [oddL, dig_pos (by omega)]
    have : x.natAbs % 4294967296 % 2 = x.natAbs % 2 := by omega
    simp [List.getD, this]
theorem tz_down {x : Int} {k : Nat} (h0 : x ≠ 0) (hk : x.natAbs % 2 ^ k = 0) : x.tdiv (2 ^ k) ≠ 0 ∧ tz x.natAbs = k + tz (x.tdiv (2 ^ k)).natAbs ∧ dyM (x.tdiv (2 ^ k)) = dyM x ∧ decide (x < 0) = decide (x.tdiv (2 ^ k) < 0) := by
  have hP : 0 < 2 ^ k := Nat.pos_of_ne_zero (by simp)
  have ha : (x.tdiv (2 ^ k)).natAbs = x.natAbs / 2 ^ k := by rw [Int.natAbs_tdiv, natAbs_two_pow]; rfl
  have hm : x.natAbs = 2 ^ k * (x.natAbs / 2 ^ k) := by have := Nat.div_add_mod x.natAbs (2 ^ k); omega
  have hne : x.natAbs / 2 ^ k ≠ 0 := fun e => by rw [e] at hm; simp at hm; omega
  have h1 : x.tdiv (2 ^ k) ≠ 0 := fun e => hne (by rw [← ha, e]; rfl)
  obtain ⟨o, ho1, ho2⟩ := tz_split hne
  have htz : tz x.natAbs = k + tz (x.natAbs / 2 ^ k) := by
    have hm2 : x.natAbs = 2 ^ (k + tz (x.natAbs / 2 ^ k)) * o := by
      rw [Nat.pow_add, Nat.mul_assoc, ← ho2]; exact hm
    have := congrArg tz hm2
    rwa [tz_mul _ ho1] at this
  refine ⟨h1, by rw [ha]; exact htz, ?_, ?_⟩
  · unfold dyM
    rw [if_neg h1, if_neg h0, ha]
    have := shZ_down x k (tz x.natAbs) (by omega)
    rw [show tz x.natAbs - k = tz (x.natAbs / 2 ^ k) by omega] at this
    rw [this]
    unfold shZ
    by_cases hz : tz x.natAbs = 0
    · rw [if_pos (by omega), hz]; simp
    · rw [if_neg (by omega), Int.neg_neg, Int.toNat_natCast]
  · by_cases hk0 : k = 0
    · subst hk0; simp
    · have e : x.tdiv (2 ^ k) = shZ x (-(k : Int)) := by unfold shZ; rw [if_neg (by omega), Int.neg_neg, Int.toNat_natCast]
      rw [e]
      refine shZ_sign _ _ ?_
      rw [← e, ha]; exact hne

/-- Before a round of the reference's loops. -/
def OI (n : Nat) (x e x1 : Int) (s : St) : Prop :=
  ∃ (i : Sid) (nx : Nat), At s 33 [[.bool (decide (x1 < 0)), .sl i 1 (u32s (dig x1.natAbs))], [.bool false, .sl ⟨0, 0, 0⟩ 1 [], .int .i64 0]] nx [(1, .int .i64 (IntKind.i64.wrap (e + (tz x.natAbs - tz x1.natAbs : Nat)))), (2, .box 0 0), (4, .box 1 0)] ∧ n ≤ nx ∧ i.f < nx ∧ 0 < nx ∧ x1 ≠ 0 ∧ tz x1.natAbs ≤ tz x.natAbs ∧ dyM x1 = dyM x ∧ sz x1 1100
theorem OI_exit {n : Nat} {x e x1 : Int} {s : St} {Q : PV → Nat → List Nat → Prop} (h : OI n x e x1 s) (ho : x1.natAbs % 2 = 1)
    (hQ : ∀ (i' : Sid) (n' : Nat), n ≤ n' → Q (.agg [.bool (decide (dyM x < 0)), .sl i' 1 (u32s (dig (dyM x).natAbs)), .int .i64 (IntKind.i64.wrap (e + tz x.natAbs))]) n' []) : GO Tryz.prog c29R0 (fin Tryz.prog [.cell 4 29] n Q) s := by
  obtain ⟨i, nx, ⟨e1, e2, e3, e4, e5⟩, hnx, hix, hx0, hne, htz, hd, hs⟩ := h
  simp at e5
  obtain ⟨e5, e6, e7⟩ := e5
  have ht : tz x1.natAbs = 0 := tz_odd ho
  have hM : dyM x1 = x1 := by unfold dyM; rw [if_neg hne, ht]; simp [shZ]
  rw [hM] at hd
  rw [ht] at e5
  simp at e5
  have := hQ i nx hnx
  rw [← hd] at this
  simpa (disch := omega) [c29R0, e1, e2, e3, e4, e5, e6, e7] using ⟨by omega, this⟩
theorem OI_1 {n : Nat} {x e x1 : Int} {s : St} {Q : PV → Nat → List Nat → Prop} (h : OI n x e x1 s) 
    (hQ : ∀ (i' : Sid) (n' : Nat), n ≤ n' → Q (.agg [.bool (decide (dyM x < 0)), .sl i' 1 (u32s (dig (dyM x).natAbs)), .int .i64 (IntKind.i64.wrap (e + tz x.natAbs))]) n' []) : GO Tryz.prog c29R1 (fin Tryz.prog [.cell 4 29] n Q) s := by
  simp only [c29R1]
  simp (disch := omega) []
  refine GO_loopN (fun k s => ∃ x1, OI n x e x1 s ∧ k = tz x1.natAbs) (tz x1.natAbs) ⟨x1, h, rfl⟩ ?_
  clear h x1
  rintro k s ⟨x1, h, rfl⟩
  have H := h
  obtain ⟨i, nx, ⟨e1, e2, e3, e4, e5⟩, hnx, hix, hx0, hne, htz, hd, hs⟩ := h
  simp only [List.mem_cons, List.not_mem_nil, or_false, forall_eq_or_imp, forall_eq] at e5
  obtain ⟨e5, e6, e7⟩ := e5
  have hl := hs.len
  obtain ⟨v, hv⟩ : ∃ v, v = IntKind.i64.wrap (e + (tz x.natAbs - tz x1.natAbs : Nat)) := ⟨_, rfl⟩
  rw [← hv] at e5
  simp (disch := omega) [c29L1, e1, e2, e3, e4, e5, e6, e7]
  refine CallK.of (by simp) (Odd_call (by omega) _ i _ (by omega) (Lim.dig _) ?_)
  rw [odd_dig]
  by_cases ho : x1.natAbs % 2 = 1
  · simp (disch := omega) [e1, e2, e3, e4, e5, e6, e7, ho]
    refine OI_exit (x1 := x1) ⟨i, nx, ?_, hnx, hix, hx0, hne, htz, hd, hs⟩ ho hQ
    simp [At, e1, e2, e3, e4, e5, e6, e7, hv]
  · simp (disch := omega) [e1, e2, e3, e4, e5, e6, e7, ho]
    obtain ⟨k1, k2, k3, k4⟩ := tz_down (x := x1) (k := 1) hne (by simp; omega)
    rw [show (2 : Int) ^ 1 = 2 from rfl] at k1 k2 k3 k4
    obtain ⟨y, hy⟩ : ∃ y, y = x1.tdiv 2 := ⟨_, rfl⟩
    rw [← hy] at k1 k2 k3 k4
    refine CallK.of (by simp) (Half_call (by omega) _ i hix _ (by omega) (Lim.dig _) y (by rw [numW_dig, hy]) fun i' n' h1 h2 => ?_)
    have hw : IntKind.i64.wrap (v + 1) = IntKind.i64.wrap (e + (tz x.natAbs - tz y.natAbs : Nat)) := by
      rw [hv, wrap_i64_full, wrap_i64_full, wrap_i64_full]; omega
    simp (disch := omega) [-wrap_i64_at, e1, e2, e3, e4, e5, e6, e7]
    refine ⟨tz y.natAbs, by omega, y, ⟨i', n', ?_, by omega, newSid_lt h2 (by omega), by omega, k1, by omega, by rw [k3, hd], ?_⟩, rfl⟩
    · rw [← hw]
      simp [-wrap_i64_at, At, e1, e2, e3, e4, e5, e6, e7]
    · refine hs.le ?_
      rw [hy, Int.natAbs_tdiv]; exact Nat.div_le_self _ _
theorem OI_0 {n : Nat} {x e x1 : Int} {s : St} {Q : PV → Nat → List Nat → Prop} (h : OI n x e x1 s) 
    (hQ : ∀ (i' : Sid) (n' : Nat), n ≤ n' → Q (.agg [.bool (decide (dyM x < 0)), .sl i' 1 (u32s (dig (dyM x).natAbs)), .int .i64 (IntKind.i64.wrap (e + tz x.natAbs))]) n' []) :
    GO Tryz.prog (.loop c29L0) (PExit.inBlock 0 (PExit.then (GO Tryz.prog c29R1 (fin Tryz.prog [.cell 4 29] n Q)) (fin Tryz.prog [.cell 4 29] n Q))) s := by
  refine GO_loopN (fun k s => ∃ x1, OI n x e x1 s ∧ k = tz x1.natAbs) (tz x1.natAbs) ⟨x1, h, rfl⟩ ?_
  clear h x1
  rintro k s ⟨x1, h, rfl⟩
  have H := h
  obtain ⟨i, nx, ⟨e1, e2, e3, e4, e5⟩, hnx, hix, hx0, hne, htz, hd, hs⟩ := h
  simp only [List.mem_cons, List.not_mem_nil, or_false, forall_eq_or_imp, forall_eq] at e5
  obtain ⟨e5, e6, e7⟩ := e5
  have hl := hs.len
  obtain ⟨hdl, hd2⟩ := dig_ne hne
  obtain ⟨v, hv⟩ : ∃ v, v = IntKind.i64.wrap (e + (tz x.natAbs - tz x1.natAbs : Nat)) := ⟨_, rfl⟩
  rw [← hv] at e5
  have hg0 : (dig x1.natAbs)[0] = x1.natAbs % 4294967296 := by
    have : ∀ (l : List Nat) (h : 0 < l.length) (y : Nat) (t : List Nat), l = y :: t → l[0] = y := by intro l h y t e; subst e; rfl
    exact this _ hdl _ _ (dig_pos (by omega))
  obtain ⟨g, hg⟩ : ∃ g, g = x1.natAbs % 4294967296 := ⟨_, rfl⟩
  rw [← hg] at hg0
  by_cases hz : g = 0
  · subst hz
    obtain ⟨l1, hl1⟩ : ∃ l1, l1 = (dig x1.natAbs).tail := ⟨_, rfl⟩
    have hll : l1.length ≤ 1100 := by rw [hl1]; simp; omega
    have llm : Lim l1 := by rw [hl1, ← List.drop_one]; exact (Lim.dig _).drop 1
    simp (disch := omega) [c29L0, e1, e2, e3, e4, e5, e6, e7, hdl, hd2, hg0, ← hl1]
    obtain ⟨k1, k2, k3, k4⟩ := tz_down (x := x1) (k := 32) hne (by rw [show (2 : Nat) ^ 32 = 4294967296 from rfl]; omega)
    rw [show (2 : Int) ^ 32 = 4294967296 from rfl] at k1 k2 k3 k4
    obtain ⟨y, hy⟩ : ∃ y, y = x1.tdiv 4294967296 := ⟨_, rfl⟩
    rw [← hy] at k1 k2 k3 k4
    have hya : y.natAbs = x1.natAbs / 4294967296 := by rw [hy, Int.natAbs_tdiv]; rfl
    have hv1 : val l1 = y.natAbs := by rw [hl1, dig_pos (by omega), List.tail_cons, val_dig, hya]
    refine CallK.of (by simp) (Made_call' (by omega) _ ⟨i.f, i.g, i.off + 1⟩ l1 (by omega) llm y hv1 (fun _ => k4) fun i' hi' => ?_)
    have hw : IntKind.i64.wrap (v + 32) = IntKind.i64.wrap (e + (tz x.natAbs - tz y.natAbs : Nat)) := by
      rw [hv, wrap_i64_full, wrap_i64_full, wrap_i64_full]; omega
    simp (disch := omega) [-wrap_i64_at, e1, e2, e3, e4, e5, e6, e7]
    refine ⟨tz y.natAbs, by omega, y, ⟨i', nx, ?_, by omega, by rcases hi' with e | e <;> subst e <;> simp <;> omega, by omega, k1, by omega, by rw [k3, hd], hs.le (by omega)⟩, rfl⟩
    rw [← hw]
    simp [-wrap_i64_at, At, e1, e2, e3, e4, e5, e6, e7]
  · simp (disch := omega) [c29L0, e1, e2, e3, e4, e5, e6, e7, hdl, hd2, hg0, hz]
    refine OI_1 (x1 := x1) ⟨i, nx, ?_, hnx, hix, hx0, hne, htz, hd, hs⟩ hQ
    simp [At, e1, e2, e3, e4, e5, e6, e7, hv]
theorem RefOfD_call {n : Nat} (hn : 0 < n) (x e : Int) (i : Sid) (hi : i.f < n) (hx : sz x 1100) (he : IntKind.i64.wrap e = e) {Q : PV → Nat → List Nat → Prop}
    (hQ : ∀ (i' : Sid) (n' : Nat), n ≤ n' → Q (D (decide (dyM x < 0)) i' (dig (dyM x).natAbs) (if x = 0 then 0 else IntKind.i64.wrap (e + tz x.natAbs))) n' []) : PCall Tryz.prog 29 [W (decide (x < 0)) i (dig x.natAbs), .int .i64 e] n Q := by
  refine of29 hn ?_
  by_cases h0 : x = 0
  · subst h0
    have := hQ ⟨0, 0, 0⟩ n (by omega)
    simp [dyM, dig_zero] at this
    simpa [c29, dig_zero] using this
  · obtain ⟨hdl, hd2⟩ := dig_ne h0
    simp only [if_neg h0, D] at hQ
    simp (disch := omega) [c29, hd2]
    refine OI_0 (x := x) (x1 := x) ⟨i, n, ?_, by omega, hi, hn, h0, by omega, rfl, hx⟩ hQ
    rw [Nat.sub_self]
    simp [At, he]
end Go.Proofs.YtphndngifjgeoaaGreatDoor

/-! DyD: What the functions of layer 2 do, by value: products, tops. -/
set_option linter.unusedVariables false
set_option linter.unusedSimpArgs false
namespace Go.Proofs.YtphndngifjgeoaaGreatDoor
open Go.Proofs

theorem CheckD_call {n : Nat} (hn : 0 < n) (neg : Bool) (i : Sid) (l : List Nat) (e : Int) (hl : l.length < 35184372088800) (ll : Lim l) {Q : PV → Nat → List Nat → Prop} (hQ : Q (.int .i64 (if rightD neg l e then 0 else 1)) n []) : PCall Tryz.prog 84 [D neg i l e] n Q := by
  unfold rightD at hQ
  refine of84 hn ?_
  simp (disch := omega) [c84]
  refine CallK.of (by simp) (Check_call hn neg i l (by omega) ?_)
  by_cases hr : rightW neg l = true
  · simp only [hr] at hQ
    cases l with
    | nil =>
      by_cases he : e = 0
      · subst he
        simpa [hr] using hQ
      · have he' : (e == 0) = false := by simpa using he
        have he'' : (e != 0) = true := by simpa using he
        simp [he] at hQ
        simpa [hr, he, he', he''] using hQ
    | cons x t =>
      have hx := ll.head
      have h1 : (0 : Nat) < (x :: t).length := by simp
      have h0 : ¬ (x :: t) = [] := by simp
      have hb0 : ((t.length : Int) + 1 == 0) = false := by rw [beq_eq_false_iff_ne]; omega
      by_cases ho : x % 2 = 1
      · have h4 : (x : Int).tmod 2 = 1 := by rw [Int.tmod_eq_emod_of_nonneg (by omega)]; omega
        have hoL : oddL (x :: t) = true := by simp [oddL, ho]
        by_cases h2 : e < -16384
        · have h2' : ¬ -16384 ≤ e := by omega
          simp [hoL, h2'] at hQ
          simpa (disch := omega) [hr, h1, h4, h2, hb0] using hQ
        · by_cases h3 : 16384 < e
          · have h3' : ¬ e ≤ 16384 := by omega
            simp [hoL, h3'] at hQ
            simpa (disch := omega) [hr, h1, h4, h2, h3, hb0] using hQ
          · have h2' : -16384 ≤ e := by omega
            have h3' : e ≤ 16384 := by omega
            simp [hoL, h2', h3'] at hQ
            simpa (disch := omega) [hr, h1, h4, h2, h3, hb0] using hQ
      · have h4 : (x : Int).tmod 2 = 0 := by rw [Int.tmod_eq_emod_of_nonneg (by omega)]; omega
        have hoL : oddL (x :: t) = false := by simp [oddL]; omega
        simp [hoL] at hQ
        simpa (disch := omega) [hr, h1, h4, hb0] using hQ
  · rw [Bool.not_eq_true] at hr
    simp [hr] at hQ
    simpa [hr] using hQ

theorem TwoD_call {n : Nat} (hn : 0 < n) (na nb : Bool) (ia ib : Sid) (a b : List Nat) (e f : Int) (ha : a.length < 35184372088800) (hb : b.length < 35184372088800) (la : Lim a) (lb : Lim b) {Q : PV → Nat → List Nat → Prop} (hQ : Q (.bool (rightD na a e && rightD nb b f)) n []) : PCall Tryz.prog 61 [D na ia a e, D nb ib b f] n Q := by
  refine of61 hn ?_
  simp (disch := omega) [c61]
  refine CallK.of (by simp) (CheckD_call hn na ia a e ha la ?_)
  cases h1 : rightD na a e
  · simp [h1] at hQ; simpa using hQ
  · simp
    refine CallK.of (by simp) (CheckD_call hn nb ib b f hb lb ?_)
    cases h2 : rightD nb b f
    · simp [h1, h2] at hQ; simpa using hQ
    · simp [h1, h2] at hQ; simpa using hQ

def topD (l : List Nat) (e : Int) : Int := if l = [] then 0 else lenW l + e
/-- A right number is what it is worth. -/
theorem rightD_Z {neg : Bool} {l : List Nat} {e : Int} (h : rightD neg l e = true) (ll : Lim l) : ∃ x : Int, neg = decide (x < 0) ∧ l = dig x.natAbs ∧ sz x 512 ∧ -16384 ≤ e ∧ e ≤ 16384 ∧ dyM x = x ∧ (x = 0 → e = 0) ∧ (x ≠ 0 → tz x.natAbs = 0) := by
  unfold rightD at h
  rw [Bool.and_eq_true] at h
  obtain ⟨h1, h2⟩ := h
  obtain ⟨x, rfl, rfl⟩ := right_Z h1 ll
  refine ⟨x, rfl, rfl, (sz_dig x).mono (rightW_top h1).2.1, ?_⟩
  by_cases h0 : x = 0
  · subst h0
    simp [dig_zero] at h2
    subst h2
    simp [dyM]
  · have hne := (dig_ne h0).2
    rw [if_neg hne, odd_dig] at h2
    simp at h2
    have ht := tz_odd h2.1
    exact ⟨h2.2.1, h2.2.2, by simp [dyM, h0, ht, shZ], fun e => absurd e h0, fun _ => ht⟩
theorem dyOk_right {x e : Int} (hx : sz x 512) : rightD (decide (dyM x < 0)) (dig (dyM x).natAbs) (if x = 0 then 0 else e + tz x.natAbs) = dyOk x e := by
  unfold rightD dyOk dyE
  rw [rightW_Z (sz_dyM hx).len]
  by_cases h0 : x = 0
  · subst h0; simp [dyM, dig_zero]
  · obtain ⟨o, h1, h2, h3⟩ := dyM_abs h0
    have hne : ¬ dyM x = 0 := fun e => by rw [e] at h3; simp at h3; omega
    rw [if_neg (dig_ne hne).2, odd_dig, h3, if_neg h0]
    simp [h1, h0]

theorem MulD_bad {n : Nat} (hn : 0 < n) (na nb : Bool) (ia ib : Sid) (a b : List Nat) (e f : Int) (ha : a.length < 35184372088800) (hb : b.length < 35184372088800) (la : Lim a) (lb : Lim b) (h : (rightD na a e && rightD nb b f) = false) {Q : PV → Nat → List Nat → Prop}
    (hQ : Q (.tup [D false ⟨0, 0, 0⟩ [] 0, .int .i64 1]) n []) : PCall Tryz.prog 64 [D na ia a e, D nb ib b f] n Q := by
  refine of64 hn ?_
  simp (disch := omega) [c64]
  refine CallK.of (by simp) (TwoD_call hn na nb ia ib a b e f ha hb la lb ?_)
  rw [h]
  simpa using hQ
theorem MulD_Z {n : Nat} (hn : 0 < n) (x y z e f : Int) (ia ib : Sid) (hia : ia.f < n) (hib : ib.f < n) (k m : Nat) (hx : sz x k) (hy : sz y m) (hk : k + m ≤ 512) (hz : x * y = z) (hx2 : rightD (decide (x < 0)) (dig x.natAbs) e = true) (hy2 : rightD (decide (y < 0)) (dig y.natAbs) f = true) (he : -16384 ≤ e ∧ e ≤ 16384) (hf : -16384 ≤ f ∧ f ≤ 16384) {Q : PV → Nat → List Nat → Prop}
    (hQ : ∀ (i' : Sid) (n' : Nat), n ≤ n' → newSid n n' i' → Q (if dyOk z (e + f) then .tup [D (decide (dyM z < 0)) i' (dig (dyM z).natAbs) (dyE z (e + f)), .int .i64 0] else .tup [D false ⟨0, 0, 0⟩ [] 0, .int .i64 2]) n' []) : PCall Tryz.prog 64 [D (decide (x < 0)) ia (dig x.natAbs) e, D (decide (y < 0)) ib (dig y.natAbs) f] n Q := by
  have l1 := hx.len
  have l2 := hy.len
  have sz' : sz z 512 := (hz ▸ hx.mul hy : sz z (k + m)).mono hk
  refine of64 hn ?_
  simp (disch := omega) [c64]
  refine CallK.of (by simp) (TwoD_call hn _ _ ia ib _ _ e f (by omega) (by omega) (Lim.dig _) (Lim.dig _) ?_)
  rw [hx2, hy2]
  simp (disch := omega) []
  refine CallK.of (by simp) (Mul_Z (by omega) x y z ia ib hia hib k m hx hy hk hz fun i1 n1 g1 d1 => ?_)
  simp (disch := omega) [g1]
  refine CallK.of (by simp) (dyof_call (by omega) z (e + f) i1 sz' (by omega) fun i2 n2 g2 d2 => ?_)
  have := hQ i2 n2 (by omega) (by rcases d2 with h | h; exact .inl h; exact .inr ⟨by omega, by omega⟩)
  cases hd : dyOk z (e + f)
  · simp [hd] at this
    simpa (disch := omega) [g1, g2] using ⟨by omega, this⟩
  · simp [hd] at this
    simpa (disch := omega) [g1, g2] using ⟨by omega, this⟩

/-- The reference's product, of any two whole numbers and powers. -/
theorem RefMulD_call {n : Nat} (hn : 0 < n) (na nb : Bool) (ia ib : Sid) (a b : List Nat) (e f : Int) (ha : a.length ≤ 512) (hb : b.length ≤ 512) (la : Lim a) (lb : Lim b) (z : Int) (hz : numW na a * numW nb b = z) {Q : PV → Nat → List Nat → Prop}
    (hQ : ∀ (i' : Sid) (n' : Nat), n ≤ n' → Q (D (decide (dyM z < 0)) i' (dig (dyM z).natAbs) (if z = 0 then 0 else IntKind.i64.wrap (IntKind.i64.wrap (e + f) + tz z.natAbs))) n' []) : PCall Tryz.prog 32 [D na ia a e, D nb ib b f] n Q := by
  have sz' : sz z 1100 := by
    have h1 := val_lt la
    have h2 := val_lt lb
    have h3 := numW_mul na nb a b
    rw [hz] at h3
    refine sz.mono (k := a.length + b.length) ?_ (by omega)
    unfold sz
    rw [h3, Nat.pow_add]
    exact Nat.mul_lt_mul'' h1 h2
  have hww : IntKind.i64.wrap (IntKind.i64.wrap (e + f)) = IntKind.i64.wrap (e + f) := by rw [wrap_i64_full, wrap_i64_full]; omega
  obtain ⟨v, hv⟩ : ∃ v, v = IntKind.i64.wrap (e + f) := ⟨_, rfl⟩
  rw [← hv] at hww
  refine of32 hn ?_
  simp (disch := omega) [-wrap_i64_at, c32, ← hv]
  refine CallK.of (by simp) (refMul_call (by omega) na nb ia ib a b (by omega) (by omega) la lb z hz fun i1 n1 g1 d1 => ?_)
  simp (disch := omega) [-wrap_i64_at, g1, ← hv]
  refine CallK.of (by simp) (RefOfD_call (by omega) z v i1 (newSid_lt d1 (by omega)) sz' hww fun i2 n2 g2 => ?_)
  have := hQ i2 n2 (by omega)
  rw [← hv] at this
  simp only [D] at this
  simpa (disch := omega) [-wrap_i64_at, g1, g2] using ⟨by omega, this⟩
end Go.Proofs.YtphndngifjgeoaaGreatDoor

/-! DyE: Numbers with one power: plain laws. -/
set_option linter.unusedVariables false
set_option linter.unusedSimpArgs false
namespace Go.Proofs.YtphndngifjgeoaaGreatDoor
open Go.Proofs

theorem blenF_bits : ∀ (f x : Nat), x < 2 ^ f → x ≠ 0 → x < 2 ^ blenF f x ∧ 2 ^ blenF f x ≤ 2 * x
  | 0, x, h, h0 => by have : x = 0 := by simpa using h
                      exact absurd this h0
  | f + 1, x, h, h0 => by
    rw [blenF, if_neg h0]
    by_cases h1 : x / 2 = 0
    · have hx : x = 1 := by omega
      subst hx
      have : blenF f 0 = 0 := by cases f <;> simp [blenF]
      simp [this]
    · have := blenF_bits f (x / 2) (by rw [Nat.pow_succ] at h; omega) h1
      rw [Nat.pow_succ]
      omega
theorem lenW_bits {l : List Nat} (ll : Lim l) (ht : topOk l) (hl : l ≠ []) : val l < 2 ^ lenW l ∧ 2 ^ lenW l ≤ 2 * val l := by
  have h0 : 0 < l.length := List.length_pos_iff.2 hl
  have hj : l.length - 1 < l.length := by omega
  have hx := ll.get hj
  have hne : l[l.length - 1] ≠ 0 := by
    simp only [topOk, List.getD, List.getElem?_eq_getElem hj, Option.getD_some] at ht; exact ht
  have hb := blenF_bits 32 _ hx hne
  have hlw : lenW l = 32 * (l.length - 1) + blen l[l.length - 1] := by simp [lenW, h0]
  have hs := val_split l (l.length - 1)
  rw [List.drop_eq_getElem_cons hj, val_cons, List.drop_eq_nil_of_le (by omega)] at hs
  simp only [val_nil, Nat.mul_zero, Nat.add_zero] at hs
  have hlo := val_lt (ll.take (l.length - 1))
  rw [List.length_take, Nat.min_eq_left (by omega)] at hlo
  have hp : 2 ^ lenW l = 4294967296 ^ (l.length - 1) * 2 ^ blen l[l.length - 1] := by rw [hlw, Nat.pow_add, Nat.pow_mul]
  rw [hp, hs]
  unfold blen
  generalize 2 ^ blenF 32 l[l.length - 1] = q at *
  generalize l[l.length - 1] = t at *
  generalize 4294967296 ^ (l.length - 1) = p at *
  generalize val (l.take (l.length - 1)) = v at *
  constructor
  · have : p * (t + 1) ≤ p * q := Nat.mul_le_mul_left p (by omega)
    rw [Nat.mul_add] at this; omega
  · have : p * q ≤ p * (2 * t) := Nat.mul_le_mul_left p (by omega)
    rw [Nat.mul_left_comm] at this; omega
theorem lenZ_bits {x : Int} (h : x ≠ 0) : x.natAbs < 2 ^ lenW (dig x.natAbs) ∧ 2 ^ lenW (dig x.natAbs) ≤ 2 * x.natAbs := by
  have := lenW_bits (Lim.dig x.natAbs) (topOk_dig _) (dig_ne h).2
  rwa [val_dig] at this
/-- Has a shifted number too many limbs? -/
theorem big_shift {x : Int} (h : x ≠ 0) (k m : Nat) : sz (shZ x k) m ↔ lenW (dig x.natAbs) + k ≤ 32 * m := by
  have h1 := lenZ_bits h
  have h2 := shZ_abs x k
  rw [if_pos (by omega), Int.toNat_natCast] at h2
  unfold sz
  rw [h2, show (4294967296 : Nat) ^ m = 2 ^ (32 * m) by rw [Nat.pow_mul]]
  have hk : 0 < 2 ^ k := Nat.pos_of_ne_zero (by simp)
  constructor
  · intro hz
    rcases Nat.lt_or_ge (32 * m) (lenW (dig x.natAbs) + k) with hc | hc
    · exfalso
      have h3 : 2 ^ (32 * m + 1) ≤ 2 ^ (lenW (dig x.natAbs) + k) := Nat.pow_le_pow_right (by omega) (by omega)
      rw [Nat.pow_succ, Nat.pow_add] at h3
      have h4 := Nat.mul_le_mul_right (2 ^ k) h1.2
      rw [Nat.mul_assoc] at h4
      omega
    · exact hc
  · intro hc
    have h3 : 2 ^ (lenW (dig x.natAbs) + k) ≤ 2 ^ (32 * m) := Nat.pow_le_pow_right (by omega) hc
    rw [Nat.pow_add] at h3
    have h4 := Nat.mul_lt_mul_of_pos_right h1.1 hk
    omega
theorem fit {a c u k M : Nat} (hM : 2 * u + 1 ≤ M) (ha : a < 2 ^ u) (hc : c < 2 ^ u) (h : a * 2 ^ k < 2 ^ M) : a * 2 ^ k + c < 2 ^ M := by
  have hk : 0 < 2 ^ k := Nat.pos_of_ne_zero (by simp)
  have hu : 0 < 2 ^ u := Nat.pos_of_ne_zero (by simp)
  by_cases hku : u ≤ k
  · by_cases hkM : k ≤ M
    · have e : 2 ^ M = 2 ^ (M - k) * 2 ^ k := by rw [← Nat.pow_add, show M - k + k = M by omega]
      have h1 : a < 2 ^ (M - k) := by rw [e] at h; exact Nat.lt_of_mul_lt_mul_right h
      have h2 := Nat.mul_le_mul_right (2 ^ k) (show a + 1 ≤ 2 ^ (M - k) by omega)
      rw [Nat.add_mul] at h2
      have h3 : 2 ^ u ≤ 2 ^ k := Nat.pow_le_pow_right (by omega) hku
      omega
    · have h1 : 2 ^ M ≤ 2 ^ k := Nat.pow_le_pow_right (by omega) (by omega)
      have h2 : a = 0 := by
        rcases Nat.eq_zero_or_pos a with h0 | h0
        · exact h0
        · have := Nat.mul_le_mul_right (2 ^ k) (show 1 ≤ a by omega)
          omega
      subst h2
      have h3 : 2 ^ u ≤ 2 ^ M := Nat.pow_le_pow_right (by omega) (by omega)
      omega
  · have h1 : 2 ^ k ≤ 2 ^ u := Nat.pow_le_pow_right (by omega) (by omega)
    have h2 : a * 2 ^ k ≤ a * 2 ^ u := Nat.mul_le_mul_left a h1
    have h3 := Nat.mul_le_mul_right (2 ^ u) (show a + 1 ≤ 2 ^ u by omega)
    have h4 : 2 ^ (2 * u + 1) ≤ 2 ^ M := Nat.pow_le_pow_right (by omega) hM
    have h5 : 2 ^ (2 * u + 1) = 2 * (2 ^ u * 2 ^ u) := by rw [Nat.pow_succ, Nat.two_mul, Nat.pow_add]; omega
    rw [Nat.add_mul] at h3
    have h6 : 2 ^ u * 1 ≤ 2 ^ u * 2 ^ u := Nat.mul_le_mul_left _ hu
    omega

/-- The lesser power of two numbers; of one that is 0 the other one's. -/
def lowE (x y e f : Int) : Int := if x = 0 then f else if y = 0 then e else min e f
/-- A number's whole part, with a lesser power. -/
def lev (x e E : Int) : Int := if x = 0 then 0 else shZ x (e - E)
def widE (x e E : Int) : Bool := decide (x ≠ 0) && (decide (16384 < e - E) || decide (16384 < (lenW (dig x.natAbs) : Int) + e - E))
def wideD (x y e f : Int) : Bool := widE x e (lowE x y e f) || widE y f (lowE x y e f)
/-- The sum, with the lesser power. -/
def sumZ (x y e f : Int) : Int := lev x e (lowE x y e f) + lev y f (lowE x y e f)

theorem sz_two {x : Int} {k : Nat} (h : sz x k) : x.natAbs < 2 ^ (32 * k) := by rw [Nat.pow_mul]; exact h
theorem sz_zero (k : Nat) : sz 0 k := by unfold sz; exact Nat.pos_of_ne_zero (by simp)
theorem lenW_small {x : Int} {k : Nat} (h : sz x k) : lenW (dig x.natAbs) ≤ 32 * k := by
  have h1 := h.len
  have ll := Lim.dig x.natAbs
  unfold lenW
  split
  · rename_i hh
    have := blen_le (ll.get (i := (dig x.natAbs).length - 1) (by omega))
    omega
  · omega
theorem lev_self {x e : Int} : lev x e e = x := by
  unfold lev; by_cases h : x = 0
  · simp [h]
  · rw [if_neg h, Int.sub_self, shZ_none]
theorem widE_self {x e : Int} (h : sz x 512) : widE x e e = false := by
  have := lenW_small h
  unfold widE
  simp; intro _; omega
/-- Not too wide, the number has no more limbs than may be. -/
theorem lev_sz {x e E : Int} (hE : E ≤ e) (h : widE x e E = false) : sz (lev x e E) 512 := by
  unfold lev
  by_cases h0 : x = 0
  · rw [if_pos h0]; exact sz_zero 512
  · rw [if_neg h0]
    obtain ⟨k, hk⟩ : ∃ k : Nat, e - E = k := ⟨(e - E).toNat, by omega⟩
    rw [hk, big_shift h0]
    unfold widE at h
    simp [h0] at h
    omega
theorem lev_abs {x e E : Int} (hE : E ≤ e) : ∃ k, (lev x e E).natAbs = x.natAbs * 2 ^ k := by
  unfold lev
  by_cases h0 : x = 0
  · exact ⟨0, by simp [h0]⟩
  · rw [if_neg h0, shZ_abs, if_pos (by omega)]; exact ⟨_, rfl⟩
theorem lowE_le {x y e f : Int} (h1 : x = 0 → e = 0) (h2 : y = 0 → f = 0) : (x ≠ 0 → lowE x y e f ≤ e) ∧ (y ≠ 0 → lowE x y e f ≤ f) ∧ (x ≠ 0 → y ≠ 0 → lowE x y e f = e ∨ lowE x y e f = f) := by
  unfold lowE
  refine ⟨fun h => ?_, fun h => ?_, fun hx hy => ?_⟩
  · rw [if_neg h]; split <;> omega
  · split
    · omega
    · first | omega | (rw [if_neg h]; omega)
  · rw [if_neg hx, if_neg hy]; omega
theorem sum_core {X x Y : Int} {j k m : Nat} (hk : 2 * (32 * k) + 1 ≤ 32 * m) (hX : X.natAbs = x.natAbs * 2 ^ j) (hx : sz x k) (hY : sz Y k) (hs : sz X m) : sz (X + Y) m := by
  have h1 := sz_two hx
  have h2 := sz_two hY
  have h3 := sz_two hs
  rw [hX] at h3
  have h4 := fit hk h1 h2 h3
  rw [← hX] at h4
  unfold sz
  rw [show (4294967296 : Nat) ^ m = 2 ^ (32 * m) by rw [Nat.pow_mul]]
  exact Nat.lt_of_le_of_lt (Int.natAbs_add_le _ _) h4
/-- The sum of two light ones that are not too wide has no more limbs than may be. -/
theorem sumZ_sz {x y e f : Int} (hx : sz x 255) (hy : sz y 255) (h1 : x = 0 → e = 0) (h2 : y = 0 → f = 0) (hw : wideD x y e f = false) : sz (sumZ x y e f) 512 := by
  unfold wideD at hw
  rw [Bool.or_eq_false_iff] at hw
  obtain ⟨q1, q2, q3⟩ := lowE_le h1 h2
  generalize hE : lowE x y e f = E at *
  unfold sumZ
  rw [hE]
  by_cases hx0 : x = 0
  · subst hx0
    have : lev 0 e E = 0 := by simp [lev]
    rw [this, Int.zero_add]
    by_cases hy0 : y = 0
    · subst hy0
      have : lev 0 f E = 0 := by simp [lev]
      rw [this]; exact sz_zero 512
    · exact lev_sz (q2 hy0) hw.2
  · by_cases hy0 : y = 0
    · subst hy0
      have : lev 0 f E = 0 := by simp [lev]
      rw [this, Int.add_zero]
      exact lev_sz (q1 hx0) hw.1
    · rcases q3 hx0 hy0 with hq | hq
      · -- the first one has the lesser power
        have e1 : lev x e E = x := by rw [hq]; exact lev_self
        obtain ⟨k, hk⟩ := lev_abs (x := y) (q2 hy0)
        rw [e1, Int.add_comm]
        exact sum_core (by decide) hk hy hx (lev_sz (q2 hy0) hw.2)
      · have e1 : lev y f E = y := by rw [hq]; exact lev_self
        obtain ⟨k, hk⟩ := lev_abs (x := x) (q1 hx0)
        rw [e1]
        exact sum_core (by decide) hk hx hy (lev_sz (q1 hx0) hw.1)
end Go.Proofs.YtphndngifjgeoaaGreatDoor

/-! DlA: The laws of layer 2, by value: what they share; numbers made, checks. -/
set_option linter.unusedVariables false
set_option linter.unusedSimpArgs false
namespace Go.Proofs.YtphndngifjgeoaaGreatDoor
open Go.Proofs

def toldD (na : Bool) (a : List Nat) (ea e : Int) (nw : Bool) (w : List Nat) (ew f : Int) : Bool :=
  if f = 0 ∧ rightD nw w ew = true then decide (e = 0) && (decide (ea = ew) && (na == nw && decide (a = w)))
  else decide (e = (if f = 0 then 2 else f)) && (decide (ea = 0) && (!na && decide (a = [])))
end Go.Proofs.YtphndngifjgeoaaGreatDoor

/-! DlB: The laws of layer 2, by value: checks, products. -/
set_option linter.unusedVariables false
set_option linter.unusedSimpArgs false
namespace Go.Proofs.YtphndngifjgeoaaGreatDoor
open Go.Proofs

theorem rightD_E {neg : Bool} {l : List Nat} {e : Int} (h : rightD neg l e = true) : -16384 ≤ e ∧ e ≤ 16384 := by
  unfold rightD at h
  rw [Bool.and_eq_true] at h
  by_cases hl : l = []
  · rw [if_pos hl] at h; simp at h; omega
  · rw [if_neg hl] at h; simp at h; exact h.2.2
theorem wrapE {z e : Int} (h : sz z 512) (he : -100000 ≤ e ∧ e ≤ 100000) : (if z = 0 then 0 else IntKind.i64.wrap (e + tz z.natAbs)) = (if z = 0 then 0 else e + tz z.natAbs) := by
  by_cases h0 : z = 0
  · rw [if_pos h0, if_pos h0]
  · rw [if_neg h0, if_neg h0]
    have := tz_sz h0 h
    exact wrap_i64_is rfl (by omega)
/-- What an answer is: the number z times 2 to the e, or why there is none. -/
def ansD (g z e : Int) (an : Bool) (al : List Nat) (ae err : Int) : Prop :=
  if g = 0 then (if dyOk z e then an = decide (dyM z < 0) ∧ al = dig (dyM z).natAbs ∧ ae = dyE z e ∧ err = 0 else an = false ∧ al = [] ∧ ae = 0 ∧ err = 2)
  else an = false ∧ al = [] ∧ ae = 0 ∧ err = g
theorem ansD_len {g z e : Int} {an : Bool} {al : List Nat} {ae err : Int} (h : ansD g z e an al ae err) (hz : g = 0 → sz z 512) : al.length ≤ 512 := by
  unfold ansD at h
  by_cases hg : g = 0
  · rw [if_pos hg] at h
    split at h
    · rw [h.2.1]; exact (sz_dyM (hz hg)).len
    · rw [h.2.1]; simp
  · rw [if_neg hg] at h; rw [h.2.1]; simp
theorem sz_prod {na nb : Bool} {a b : List Nat} (la : Lim a) (lb : Lim b) (ha : a.length ≤ 30) (hb : b.length ≤ 30) : sz (numW na a * numW nb b) 60 := by
  have h1 := val_lt la
  have h2 := val_lt lb
  refine sz.mono (k := a.length + b.length) ?_ (by omega)
  unfold sz; rw [numW_mul, Nat.pow_add]; exact Nat.mul_lt_mul'' h1 h2
theorem MulD_any {n : Nat} (hn : 0 < n) (na nb : Bool) (ia ib : Sid) (hia : ia.f < n) (hib : ib.f < n) (a b : List Nat) (e f : Int) (ha : a.length ≤ 30) (hb : b.length ≤ 30) (la : Lim a) (lb : Lim b) {Q : PV → Nat → List Nat → Prop}
    (hQ : ∀ (i' : Sid) (n' : Nat) (an : Bool) (al : List Nat) (ae err : Int), n ≤ n' → newSid n n' i' → ansD (if rightD na a e && rightD nb b f then 0 else 1) (numW na a * numW nb b) (e + f) an al ae err → Q (.tup [D an i' al ae, .int .i64 err]) n' []) : PCall Tryz.prog 64 [D na ia a e, D nb ib b f] n Q := by
  cases hr : rightD na a e && rightD nb b f
  · exact MulD_bad hn na nb ia ib a b e f (by omega) (by omega) la lb hr (hQ _ _ _ _ _ _ (by omega) (.inl rfl) (by simp [ansD, hr]))
  · have hr' := hr
    rw [Bool.and_eq_true] at hr
    obtain ⟨x, rfl, rfl, sx, he1, he2, _⟩ := rightD_Z hr.1 la
    obtain ⟨y, rfl, rfl, sy, hf1, hf2, _⟩ := rightD_Z hr.2 lb
    have sx' : sz x 30 := (sz_dig x).mono ha
    have sy' : sz y 30 := (sz_dig y).mono hb
    refine MulD_Z hn x y (x * y) e f ia ib hia hib 30 30 sx' sy' (by omega) rfl hr.1 hr.2 (by omega) (by omega) fun i' n' h1 h2 => ?_
    have := fun j hj an al ae err => hQ j n' an al ae err h1 hj
    rw [hr', numW_dig, numW_dig] at this
    cases hok : dyOk (x * y) (e + f)
    · exact this ⟨0, 0, 0⟩ (.inl rfl) false [] 0 2 (by simp [ansD, hok])
    · exact this i' h2 (decide (dyM (x * y) < 0)) (dig (dyM (x * y)).natAbs) (dyE (x * y) (e + f)) 0 (by simp [ansD, hok])
/-- Why a number is not scaled. -/
def scG (na : Bool) (a : List Nat) (e c : Int) : Int := if rightD na a e then (if c < -32768 ∨ 32768 < c then 2 else 0) else 1
end Go.Proofs.YtphndngifjgeoaaGreatDoor

/-! DyF: What the functions of layer 2 do, by value: two numbers with one power, sums. -/
set_option linter.unusedVariables false
set_option linter.unusedSimpArgs false
namespace Go.Proofs.YtphndngifjgeoaaGreatDoor
open Go.Proofs

def levIs (x y e f : Int) (xn : Bool) (xl : List Nat) (yn : Bool) (yl : List Nat) (E err : Int) : Prop :=
  xl.length ≤ 512 ∧ yl.length ≤ 512 ∧ (if wideD x y e f then err = 2 else err = 0 ∧ E = lowE x y e f ∧ xn = decide (lev x e E < 0) ∧ xl = dig (lev x e E).natAbs ∧ yn = decide (lev y f E < 0) ∧ yl = dig (lev y f E).natAbs)
theorem lowE_swap {x y e f : Int} (h1 : x = 0 → e = 0) (h2 : y = 0 → f = 0) : lowE y x f e = lowE x y e f := by
  unfold lowE
  by_cases hx : x = 0 <;> by_cases hy : y = 0 <;> simp [hx, hy, h1, h2] <;> omega
theorem levIs_swap {x y e f : Int} (h1 : x = 0 → e = 0) (h2 : y = 0 → f = 0) {xn yn : Bool} {xl yl : List Nat} {E err : Int} (h : levIs y x f e yn yl xn xl E err) : levIs x y e f xn xl yn yl E err := by
  obtain ⟨a, b, c⟩ := h
  refine ⟨b, a, ?_⟩
  have : wideD x y e f = wideD y x f e := by unfold wideD; rw [lowE_swap h1 h2, Bool.or_comm]
  rw [this]
  split
  · rename_i hw; rw [if_pos hw] at c; exact c
  · rename_i hw
    rw [if_neg hw, lowE_swap h1 h2] at c
    obtain ⟨c1, c2, c3, c4, c5, c6⟩ := c
    exact ⟨c1, c2, c5, c6, c3, c4⟩

theorem level_ge {n : Nat} (hn : 0 < n) (x y e f : Int) (ia ib : Sid) (hx : sz x 512) (hy : sz y 512) (h1 : x = 0 → e = 0) (h2 : y = 0 → f = 0) (he : -16384 ≤ e ∧ e ≤ 16384) (hf : -16384 ≤ f ∧ f ≤ 16384) (hef : f ≤ e) {Q : PV → Nat → List Nat → Prop}
    (hQ : ∀ (i j : Sid) (n' : Nat) (xn yn : Bool) (xl yl : List Nat) (E err : Int), n ≤ n' → levIs x y e f xn xl yn yl E err → Q (.tup [W xn i xl, W yn j yl, .int .i64 E, .int .i64 err]) n' []) : PCall Tryz.prog 85 [D (decide (x < 0)) ia (dig x.natAbs) e, D (decide (y < 0)) ib (dig y.natAbs) f] n Q := by
  have lx := hx.len
  have ly := hy.len
  have hef' : ¬ e < f := by omega
  refine of85 hn ?_
  by_cases hy0 : y = 0
  · subst hy0
    have hf0 := h2 rfl
    subst hf0
    have hlow : lowE x 0 e 0 = e := by unfold lowE; by_cases h : x = 0 <;> simp [h, h1]
    have hw : wideD x 0 e 0 = false := by unfold wideD; rw [hlow, widE_self hx]; simp [widE]
    have := hQ ia ib n (decide (x < 0)) false (dig x.natAbs) [] e 0 (by omega) ⟨by omega, by simp, by rw [hw]; simp [hlow, lev_self]; simp [lev, dig_zero]⟩
    simp only [W] at this
    simpa (disch := omega) [c85, hef', dig_zero] using this
  · obtain ⟨hdl, hd2⟩ := dig_ne hy0
    by_cases hx0 : x = 0
    · subst hx0
      have he0 := h1 rfl
      subst he0
      have hlow : lowE 0 y 0 f = f := by unfold lowE; simp
      have hw : wideD 0 y 0 f = false := by unfold wideD; rw [hlow, widE_self hy]; simp [widE]
      have := hQ ia ib n false (decide (y < 0)) [] (dig y.natAbs) f 0 (by omega) ⟨by simp, by omega, by rw [hw]; simp [hlow, lev_self]; simp [lev, dig_zero]⟩
      simp only [W] at this
      simpa (disch := omega) [c85, hef', hd2, dig_zero] using this
    · obtain ⟨hxl, hx2⟩ := dig_ne hx0
      have hlow : lowE x y e f = f := by unfold lowE; rw [if_neg hx0, if_neg hy0]; omega
      have hwE : IntKind.i64.wrap (e - f) = e - f := wrap_i64_is rfl (by omega)
      have hr := rightW_Z (x := x) (by omega)
      have hw : wideD x y e f = widE x e f := by unfold wideD; rw [hlow, widE_self hy, Bool.or_false]
      simp (disch := omega) [-wrap_i64_at, c85, hef', hd2, hx2, hwE]
      refine CallK.of (by simp) (Shift_call hn _ ia _ (by omega) (Lim.dig _) (e - f) (by omega) (fun h => by rw [hr] at h; cases h) (fun _ h => ?_) (fun _ hr2 i1 n1 g1 d1 => ?_))
      · have hwt : wideD x y e f = true := by rw [hw]; unfold widE; simp [hx0]; omega
        have := hQ ⟨0, 0, 0⟩ ib n false (decide (y < 0)) [] (dig y.natAbs) f 2 (by omega) ⟨by simp, by omega, by rw [hwt]; simp⟩
        simp only [W] at this
        simpa (disch := omega) [-wrap_i64_at] using this
      · rw [numW_dig]
        obtain ⟨k, hk⟩ : ∃ k : Nat, e - f = k := ⟨(e - f).toNat, by omega⟩
        obtain ⟨z, hz⟩ : ∃ z, z = shZ x (e - f) := ⟨_, rfl⟩
        have hbig := big_shift hx0 k 512
        rw [← hk, ← hz] at hbig
        have hlev : lev x e f = z := by unfold lev; rw [if_neg hx0, hz]
        rw [← hz]
        by_cases hzs : sz z 512
        · have hl := hbig.1 hzs
          have hwf : wideD x y e f = false := by rw [hw]; unfold widE; simp [hx0]; omega
          obtain ⟨q1, q2, q3⟩ := ansIs_Z (ansIs_ans z) hzs.len
          have hzl := hzs.len
          have := hQ i1 ib n1 (decide (z < 0)) (decide (y < 0)) (dig z.natAbs) (dig y.natAbs) f 0 (by omega) ⟨by omega, by omega, by rw [hwf]; simp [hlow, hlev, lev_self]⟩
          rw [q1, q2, q3]
          simp only [W] at this
          simpa (disch := omega) [-wrap_i64_at, g1] using this
        · have hl : ¬ (lenW (dig x.natAbs) + k ≤ 32 * 512) := fun h => hzs (hbig.2 h)
          have hwt : wideD x y e f = true := by rw [hw]; unfold widE; simp [hx0]; omega
          have hbz : big z = true := by
            unfold big
            rw [decide_eq_true_eq]
            rcases Nat.lt_or_ge 512 (dig z.natAbs).length with h | h
            · exact h
            · exact absurd ((sz_dig z).mono h) hzs
          have q1 : ansN z = false := by simp [ansN, hbz]
          have q2 : ansL z = [] := by simp [ansL, hbz]
          have q3 : ansE z = 2 := by simp [ansE, hbz]
          have := hQ i1 ib n1 false (decide (y < 0)) [] (dig y.natAbs) f 2 (by omega) ⟨by simp, by omega, by rw [hwt]; simp⟩
          rw [q1, q2, q3]
          simp only [W] at this
          simpa (disch := omega) [-wrap_i64_at, g1] using this
theorem level_call {n : Nat} (hn : 0 < n) (x y e f : Int) (ia ib : Sid) (hx : sz x 512) (hy : sz y 512) (h1 : x = 0 → e = 0) (h2 : y = 0 → f = 0) (he : -16384 ≤ e ∧ e ≤ 16384) (hf : -16384 ≤ f ∧ f ≤ 16384) {Q : PV → Nat → List Nat → Prop}
    (hQ : ∀ (i j : Sid) (n' : Nat) (xn yn : Bool) (xl yl : List Nat) (E err : Int), n ≤ n' → levIs x y e f xn xl yn yl E err → Q (.tup [W xn i xl, W yn j yl, .int .i64 E, .int .i64 err]) n' []) : PCall Tryz.prog 85 [D (decide (x < 0)) ia (dig x.natAbs) e, D (decide (y < 0)) ib (dig y.natAbs) f] n Q := by
  by_cases hef : e < f
  · refine of85 hn ?_
    simp (disch := omega) [c85, hef]
    refine CallK.of (by simp) (level_ge hn y x f e ib ia hy hx h2 h1 hf he (by omega) fun i j n1 xn yn xl yl E err g1 hl => ?_)
    have := hQ j i n1 yn xn yl xl E err g1 (levIs_swap h1 h2 hl)
    simp only [W] at this
    simpa (disch := omega) [g1] using this
  · exact level_ge hn x y e f ia ib hx hy h1 h2 he hf (by omega) hQ

/-- Why there is no sum. -/
def sumG (na nb : Bool) (a b : List Nat) (e f : Int) : Int := if rightD na a e && rightD nb b f then (if wideD (numW na a) (numW nb b) e f then 2 else 0) else 1
theorem AddD_Z {n : Nat} (hn : 0 < n) (x y e f : Int) (ia ib : Sid) (hx : sz x 512) (hy : sz y 512) (hx2 : rightD (decide (x < 0)) (dig x.natAbs) e = true) (hy2 : rightD (decide (y < 0)) (dig y.natAbs) f = true) (h1 : x = 0 → e = 0) (h2 : y = 0 → f = 0) (hss : wideD x y e f = false → sz (sumZ x y e f) 512) {Q : PV → Nat → List Nat → Prop}
    (hQ : ∀ (i' : Sid) (n' : Nat) (an : Bool) (al : List Nat) (ae err : Int), n ≤ n' → newSid n n' i' → ansD (if wideD x y e f then 2 else 0) (sumZ x y e f) (lowE x y e f) an al ae err → Q (.tup [D an i' al ae, .int .i64 err]) n' []) : PCall Tryz.prog 62 [D (decide (x < 0)) ia (dig x.natAbs) e, D (decide (y < 0)) ib (dig y.natAbs) f] n Q := by
  have lx := hx.len
  have ly := hy.len
  have he := rightD_E hx2
  have hf := rightD_E hy2
  refine of62 hn ?_
  simp (disch := omega) [c62]
  refine CallK.of (by simp) (TwoD_call hn _ _ ia ib _ _ e f (by omega) (by omega) (Lim.dig _) (Lim.dig _) ?_)
  rw [hx2, hy2]
  simp (disch := omega) []
  refine CallK.of (by simp) (level_call hn x y e f ia ib hx hy h1 h2 he hf fun i j n1 xn yn xl yl E err g1 hl => ?_)
  obtain ⟨l1, l2, hl⟩ := hl
  by_cases hw : wideD x y e f = true
  · rw [if_pos hw] at hl
    subst hl
    have := hQ ⟨0, 0, 0⟩ n1 false [] 0 2 g1 (.inl rfl) (by rw [if_pos hw]; simp [ansD])
    simpa (disch := omega) [g1] using this
  · rw [if_neg hw] at hl
    obtain ⟨rfl, hE, rfl, rfl, rfl, rfl⟩ := hl
    rw [Bool.not_eq_true] at hw
    have sz1 := hss hw
    have hsum : lev x e E + lev y f E = sumZ x y e f := by unfold sumZ; rw [hE]
    obtain ⟨z, hz⟩ : ∃ z, z = sumZ x y e f := ⟨_, rfl⟩
    rw [← hz] at sz1 hsum
    have hEb : -16384 ≤ E ∧ E ≤ 16384 := by rw [hE]; unfold lowE; split <;> (try split) <;> omega
    simp (disch := omega) [g1]
    refine CallK.of (by simp) (Add_any (by omega) _ _ i j _ _ (by omega) (by omega) (Lim.dig _) (Lim.dig _) fun i2 n2 an al er g2 d2 ha => ?_)
    rw [rightW_Z l1, rightW_Z l2, numW_dig, numW_dig, hsum] at ha
    obtain ⟨rfl, rfl, rfl⟩ := ansIs_Z ha sz1.len
    simp (disch := omega) [g1, g2]
    refine CallK.of (by simp) (dyof_call (by omega) z E i2 sz1 (by omega) fun i3 n3 g3 d3 => ?_)
    have := fun j hj an al ae err => hQ j n3 an al ae err (by omega) hj
    rw [hw, ← hz, ← hE] at this
    have hd3 : newSid n n3 i3 := by rcases d3 with h | h; exact .inl h; exact .inr ⟨by omega, by omega⟩
    cases hok : dyOk z E
    · have := this ⟨0, 0, 0⟩ (.inl rfl) false [] 0 2 (by simp [ansD, hok])
      simpa (disch := omega) [g1, g2, g3] using ⟨by omega, this⟩
    · have := this i3 hd3 (decide (dyM z < 0)) (dig (dyM z).natAbs) (dyE z E) 0 (by simp [ansD, hok])
      simpa (disch := omega) [g1, g2, g3] using ⟨by omega, this⟩
theorem AddD_bad {n : Nat} (hn : 0 < n) (na nb : Bool) (ia ib : Sid) (a b : List Nat) (e f : Int) (ha : a.length < 35184372088800) (hb : b.length < 35184372088800) (la : Lim a) (lb : Lim b) (h : (rightD na a e && rightD nb b f) = false) {Q : PV → Nat → List Nat → Prop}
    (hQ : Q (.tup [D false ⟨0, 0, 0⟩ [] 0, .int .i64 1]) n []) : PCall Tryz.prog 62 [D na ia a e, D nb ib b f] n Q := by
  refine of62 hn ?_
  simp (disch := omega) [c62]
  refine CallK.of (by simp) (TwoD_call hn na nb ia ib a b e f ha hb la lb ?_)
  rw [h]
  simpa using hQ
end Go.Proofs.YtphndngifjgeoaaGreatDoor

/-! DyG: What the functions of layer 2 do, by value: differences, the reference's sums. -/
set_option linter.unusedVariables false
set_option linter.unusedSimpArgs false
namespace Go.Proofs.YtphndngifjgeoaaGreatDoor
open Go.Proofs

theorem minusD_call {n : Nat} (hn : 0 < n) (y f : Int) (ib : Sid) (hy : sz y 512) {Q : PV → Nat → List Nat → Prop}
    (hQ : Q (D (decide (-y < 0)) ib (dig (-y).natAbs) f) n []) : PCall Tryz.prog 63 [D (decide (y < 0)) ib (dig y.natAbs) f] n Q := by
  rw [Int.natAbs_neg] at hQ
  refine of63 hn ?_
  by_cases h0 : y = 0
  · subst h0
    simp [dig_zero] at hQ
    simpa (disch := omega) [c63, dig_zero] using hQ
  · obtain ⟨hdl, hd2⟩ := dig_ne h0
    by_cases hs : y < 0
    · have h2 : ¬ -y < 0 := by omega
      simp [h2] at hQ
      have h3 : ¬ 0 < y := by omega
      simp [h3] at hQ
      simpa (disch := omega) [c63, hs] using hQ
    · have h2 : 0 < y := by omega
      simp [h2] at hQ
      simpa (disch := omega) [c63, hs, hdl] using hQ
theorem rightD_neg {y f : Int} (h : rightD (decide (y < 0)) (dig y.natAbs) f = true) : rightD (decide (-y < 0)) (dig (-y).natAbs) f = true := by
  have hh := h
  unfold rightD at h ⊢
  rw [Bool.and_eq_true] at h ⊢
  have hl := (rightW_top h.1).2.1
  rw [Int.natAbs_neg] at *
  refine ⟨?_, h.2⟩
  have := rightW_Z (x := -y) (by rw [Int.natAbs_neg]; exact hl)
  rwa [Int.natAbs_neg] at this
theorem lowE_neg (x y e f : Int) : lowE x (-y) e f = lowE x y e f := by
  unfold lowE
  by_cases h : y = 0
  · subst h; rfl
  · rw [if_neg (show ¬ -y = 0 by omega), if_neg h]
theorem wideD_neg (x y e f : Int) : wideD x (-y) e f = wideD x y e f := by
  unfold wideD widE
  rw [lowE_neg, Int.natAbs_neg]
  congr 2
  simp
theorem sz_neg {y : Int} {k : Nat} (h : sz y k) : sz (-y) k := by unfold sz at *; rwa [Int.natAbs_neg]

theorem SubD_Z {n : Nat} (hn : 0 < n) (x y e f : Int) (ia ib : Sid) (hx : sz x 512) (hy : sz y 512) (hx2 : rightD (decide (x < 0)) (dig x.natAbs) e = true) (hy2 : rightD (decide (y < 0)) (dig y.natAbs) f = true) (h1 : x = 0 → e = 0) (h2 : y = 0 → f = 0) (hss : wideD x y e f = false → sz (sumZ x (-y) e f) 512) {Q : PV → Nat → List Nat → Prop}
    (hQ : ∀ (i' : Sid) (n' : Nat) (an : Bool) (al : List Nat) (ae err : Int), n ≤ n' → newSid n n' i' → ansD (if wideD x y e f then 2 else 0) (sumZ x (-y) e f) (lowE x y e f) an al ae err → Q (.tup [D an i' al ae, .int .i64 err]) n' []) : PCall Tryz.prog 34 [D (decide (x < 0)) ia (dig x.natAbs) e, D (decide (y < 0)) ib (dig y.natAbs) f] n Q := by
  have lx := hx.len
  have ly := hy.len
  refine of34 hn ?_
  simp (disch := omega) [c34]
  refine CallK.of (by simp) (TwoD_call hn _ _ ia ib _ _ e f (by omega) (by omega) (Lim.dig _) (Lim.dig _) ?_)
  rw [hx2, hy2]
  simp (disch := omega) []
  refine CallK.of (by simp) (minusD_call hn y f ib (hy.mono (by omega)) ?_)
  have hw := wideD_neg x y e f
  have hlow := lowE_neg x y e f
  have hr := rightD_neg hy2
  obtain ⟨y', hy'⟩ : ∃ y', y' = -y := ⟨_, rfl⟩
  rw [← hy'] at hw hlow hr hQ hss ⊢
  simp (disch := omega) []
  refine CallK.of (by simp) (AddD_Z hn x y' e f ia ib hx (by rw [hy']; exact sz_neg hy) hx2 hr h1 (fun h => h2 (by omega)) (fun h => hss (by rw [← hw]; exact h)) fun i n1 an al ae err g1 d1 ha => ?_)
  rw [hw, hlow] at ha
  have := hQ i n1 an al ae err g1 d1 ha
  simpa (disch := omega) [g1] using this
theorem SubD_bad {n : Nat} (hn : 0 < n) (na nb : Bool) (ia ib : Sid) (a b : List Nat) (e f : Int) (ha : a.length < 35184372088800) (hb : b.length < 35184372088800) (la : Lim a) (lb : Lim b) (h : (rightD na a e && rightD nb b f) = false) {Q : PV → Nat → List Nat → Prop}
    (hQ : Q (.tup [D false ⟨0, 0, 0⟩ [] 0, .int .i64 1]) n []) : PCall Tryz.prog 34 [D na ia a e, D nb ib b f] n Q := by
  refine of34 hn ?_
  simp (disch := omega) [c34]
  refine CallK.of (by simp) (TwoD_call hn na nb ia ib a b e f ha hb la lb ?_)
  rw [h]
  simpa using hQ

theorem Low_call {n : Nat} (hn : 0 < n) (x y e f : Int) (ia ib : Sid) (hx : sz x 512) (hy : sz y 512) {Q : PV → Nat → List Nat → Prop}
    (hQ : Q (.int .i64 (lowE x y e f)) n []) : PCall Tryz.prog 53 [D (decide (x < 0)) ia (dig x.natAbs) e, D (decide (y < 0)) ib (dig y.natAbs) f] n Q := by
  have lx := hx.len
  have ly := hy.len
  unfold lowE at hQ
  refine of53 hn ?_
  by_cases hx0 : x = 0
  · subst hx0
    simp at hQ
    simpa (disch := omega) [c53, dig_zero] using hQ
  · obtain ⟨hxl, hx2⟩ := dig_ne hx0
    rw [if_neg hx0] at hQ
    by_cases hy0 : y = 0
    · subst hy0
      simp at hQ
      simpa (disch := omega) [c53, hx2, dig_zero] using hQ
    · obtain ⟨hyl, hy2⟩ := dig_ne hy0
      rw [if_neg hy0] at hQ
      have hm : minV (.int .i64 e) (.int .i64 f) = some (.int .i64 (min e f)) := by
        rw [minV_int]; congr 2; split <;> omega
      simpa (disch := omega) [c53, hx2, hy2, hm] using hQ
theorem Level_call {n : Nat} (hn : 0 < n) (x e E : Int) (ia : Sid) (hia : ia.f < n) (hx : sz x 512) (he : x ≠ 0 → -16384 ≤ e - E ∧ e - E ≤ 16384) (hb : -100000 ≤ e ∧ e ≤ 100000 ∧ -100000 ≤ E ∧ E ≤ 100000) {Q : PV → Nat → List Nat → Prop}
    (hQ : ∀ (i : Sid) (n' : Nat), n ≤ n' → Q (W (decide (lev x e E < 0)) i (dig (lev x e E).natAbs)) n' []) : PCall Tryz.prog 55 [D (decide (x < 0)) ia (dig x.natAbs) e, .int .i64 E] n Q := by
  have lx := hx.len
  unfold lev at hQ
  refine of55 hn ?_
  by_cases hx0 : x = 0
  · subst hx0
    have := hQ ia n (by omega)
    simp [dig_zero, W] at this
    simpa (disch := omega) [c55, dig_zero] using this
  · obtain ⟨hxl, hx2⟩ := dig_ne hx0
    simp only [if_neg hx0, W] at hQ
    have hw1 : IntKind.i64.wrap (e - E) = e - E := wrap_i64_is rfl (by omega)
    simp (disch := omega) [-wrap_i64_at, c55, hx2, hw1]
    refine CallK.of (by simp) (RefShift_call hn x ia hia hx (e - E) (he hx0) _ rfl fun i n1 g1 => ?_)
    have := hQ i n1 g1
    simpa (disch := omega) [-wrap_i64_at, g1] using this
theorem RefAddD_call {n : Nat} (hn : 0 < n) (x y e f : Int) (ia ib : Sid) (hia : ia.f < n) (hib : ib.f < n) (hx : sz x 512) (hy : sz y 512) (h1 : x = 0 → e = 0) (h2 : y = 0 → f = 0) (he : -16384 ≤ e ∧ e ≤ 16384) (hf : -16384 ≤ f ∧ f ≤ 16384) (hw : wideD x y e f = false) (sz1 : sz (sumZ x y e f) 512) {Q : PV → Nat → List Nat → Prop}
    (hQ : ∀ (i' : Sid) (n' : Nat), n ≤ n' → Q (D (decide (dyM (sumZ x y e f) < 0)) i' (dig (dyM (sumZ x y e f)).natAbs) (if sumZ x y e f = 0 then 0 else lowE x y e f + tz (sumZ x y e f).natAbs)) n' []) : PCall Tryz.prog 31 [D (decide (x < 0)) ia (dig x.natAbs) e, D (decide (y < 0)) ib (dig y.natAbs) f] n Q := by
  obtain ⟨q1, q2, q3⟩ := lowE_le h1 h2
  have hw' := hw
  unfold wideD at hw'
  rw [Bool.or_eq_false_iff] at hw'
  obtain ⟨E, hE⟩ : ∃ E, E = lowE x y e f := ⟨_, rfl⟩
  obtain ⟨z, hz⟩ : ∃ z, z = sumZ x y e f := ⟨_, rfl⟩
  have hsum : lev x e E + lev y f E = z := by rw [hz]; unfold sumZ; rw [hE]
  have hEb : -16384 ≤ E ∧ E ≤ 16384 := by rw [hE]; unfold lowE; split <;> (try split) <;> omega
  rw [← hE] at q1 q2 hw' hQ
  rw [← hz] at hQ sz1
  have hxe : x ≠ 0 → -16384 ≤ e - E ∧ e - E ≤ 16384 := fun h => by
    have := q1 h
    have h3 := hw'.1
    unfold widE at h3
    simp [h] at h3
    omega
  have hyf : y ≠ 0 → -16384 ≤ f - E ∧ f - E ≤ 16384 := fun h => by
    have := q2 h
    have h3 := hw'.2
    unfold widE at h3
    simp [h] at h3
    omega
  have hlx : sz (lev x e E) 512 := by
    by_cases h : x = 0
    · subst h; have : ∀ q, lev 0 q E = 0 := fun q => by simp [lev]
      rw [this]; exact sz_zero 512
    · exact lev_sz (q1 h) hw'.1
  have hly : sz (lev y f E) 512 := by
    by_cases h : y = 0
    · subst h; have : ∀ q, lev 0 q E = 0 := fun q => by simp [lev]
      rw [this]; exact sz_zero 512
    · exact lev_sz (q2 h) hw'.2
  have l1 := hlx.len
  have l2 := hly.len
  refine of31 hn ?_
  simp (disch := omega) [c31]
  refine CallK.of (by simp) (Low_call hn x y e f ia ib (hx.mono (by omega)) (hy.mono (by omega)) ?_)
  rw [← hE]
  simp (disch := omega) []
  refine CallK.of (by simp) (Level_call hn x e E ia hia (hx.mono (by omega)) hxe (by omega) fun i1 n1 g1 => ?_)
  simp (disch := omega) [g1]
  refine CallK.of (by simp) (Level_call (by omega) y f E ib (by omega) (hy.mono (by omega)) hyf (by omega) fun i2 n2 g2 => ?_)
  simp (disch := omega) [g1, g2]
  refine CallK.of (by simp) (refAdd_call (by omega) _ _ i1 i2 _ _ (by omega) (by omega) (Lim.dig _) (Lim.dig _) z (by rw [numW_dig, numW_dig, hsum]) fun i3 n3 g3 d3 => ?_)
  simp (disch := omega) [g1, g2, g3]
  refine CallK.of (by simp) (RefOfD_call (by omega) z E i3 (newSid_lt d3 (by omega)) (sz1.mono (by omega)) (wrap_i64_is rfl (by omega)) fun i4 n4 g4 => ?_)
  rw [wrapE sz1 (by omega)]
  have := hQ i4 n4 (by omega)
  simp only [D] at this
  simpa (disch := omega) [-wrap_i64_at, g1, g2, g3, g4] using ⟨by omega, this⟩
theorem RefNegD_call {n : Nat} (hn : 0 < n) (y f : Int) (ib : Sid) (hib : ib.f < n) (hy : sz y 512) {Q : PV → Nat → List Nat → Prop}
    (hQ : ∀ i', i'.f < n → Q (D (decide (-y < 0)) i' (dig (-y).natAbs) f) n []) : PCall Tryz.prog 49 [D (decide (y < 0)) ib (dig y.natAbs) f] n Q := by
  have ly := hy.len
  obtain ⟨y', hy'⟩ : ∃ y', y' = -y := ⟨_, rfl⟩
  rw [← hy'] at hQ
  refine of49 hn ?_
  simp (disch := omega) [c49]
  refine CallK.of (by simp) (Neg_call hn _ ib _ (by omega) (Lim.dig _) y' (by rw [numW_dig, hy']) fun i' hi' => ?_)
  have hi2 : i'.f < n := by
    rcases hi' with h | h
    · subst h; simpa using hn
    · subst h; exact hib
  have := hQ i' hi2
  simp only [D] at this
  simpa (disch := omega) [] using this
theorem RefSubD_call {n : Nat} (hn : 0 < n) (x y e f : Int) (ia ib : Sid) (hia : ia.f < n) (hib : ib.f < n) (hx : sz x 512) (hy : sz y 512) (h1 : x = 0 → e = 0) (h2 : y = 0 → f = 0) (he : -16384 ≤ e ∧ e ≤ 16384) (hf : -16384 ≤ f ∧ f ≤ 16384) (hw : wideD x y e f = false) (sz1 : sz (sumZ x (-y) e f) 512) {Q : PV → Nat → List Nat → Prop}
    (hQ : ∀ (i' : Sid) (n' : Nat), n ≤ n' → Q (D (decide (dyM (sumZ x (-y) e f) < 0)) i' (dig (dyM (sumZ x (-y) e f)).natAbs) (if sumZ x (-y) e f = 0 then 0 else lowE x y e f + tz (sumZ x (-y) e f).natAbs)) n' []) : PCall Tryz.prog 28 [D (decide (x < 0)) ia (dig x.natAbs) e, D (decide (y < 0)) ib (dig y.natAbs) f] n Q := by
  have hw2 := wideD_neg x y e f
  have hlow := lowE_neg x y e f
  rw [← hlow] at hQ
  rw [hw] at hw2
  have hy2 := sz_neg hy
  refine of28 hn ?_
  simp (disch := omega) [c28]
  refine CallK.of (by simp) (RefNegD_call hn y f ib hib (hy.mono (by omega)) fun i' hi' => ?_)
  have hq0 : -y = 0 → f = 0 := fun h => h2 (by omega)
  generalize -y = y' at *
  simp (disch := omega) []
  refine CallK.of (by simp) (RefAddD_call hn x y' e f ia i' hia hi' hx hy2 h1 hq0 he hf hw2 sz1 fun i1 n1 g1 => ?_)
  have := hQ i1 n1 g1
  simp only [D] at this
  simpa (disch := omega) [g1] using this
end Go.Proofs.YtphndngifjgeoaaGreatDoor

/-! DyH: Numbers in units of a power of two: sums and products of them, by value. -/
set_option linter.unusedVariables false
set_option linter.unusedSimpArgs false
namespace Go.Proofs.YtphndngifjgeoaaGreatDoor
open Go.Proofs

theorem dyM_mul (x : Int) (k : Nat) : dyM (x * 2 ^ k) = dyM x := by
  by_cases h0 : x = 0
  · subst h0; simp
  · have hp : (2 : Int) ^ k ≠ 0 := by have := two_pow_pos' k; omega
    have h1 : x * 2 ^ k ≠ 0 := Int.mul_ne_zero h0 hp
    have ha : (x * 2 ^ k).natAbs = x.natAbs * 2 ^ k := by rw [Int.natAbs_mul, natAbs_two_pow]
    have hd := tz_down (x := x * 2 ^ k) (k := k) h1 (by rw [ha]; exact Nat.mul_mod_left _ _)
    rw [Int.mul_tdiv_cancel _ hp] at hd
    exact hd.2.2.1.symm
theorem tz_mul2 {x : Int} (h0 : x ≠ 0) (k : Nat) : tz (x * 2 ^ k).natAbs = k + tz x.natAbs := by
  have hp : (2 : Int) ^ k ≠ 0 := by have := two_pow_pos' k; omega
  have h1 : x * 2 ^ k ≠ 0 := Int.mul_ne_zero h0 hp
  have ha : (x * 2 ^ k).natAbs = x.natAbs * 2 ^ k := by rw [Int.natAbs_mul, natAbs_two_pow]
  have hd := tz_down (x := x * 2 ^ k) (k := k) h1 (by rw [ha]; exact Nat.mul_mod_left _ _)
  rw [Int.mul_tdiv_cancel _ hp] at hd
  exact hd.2.1
theorem dyE_mul (x E : Int) (k : Nat) : dyE (x * 2 ^ k) E = dyE x (E + k) := by
  by_cases h0 : x = 0
  · subst h0; simp [dyE]
  · have hp : (2 : Int) ^ k ≠ 0 := by have := two_pow_pos' k; omega
    have h1 : x * 2 ^ k ≠ 0 := Int.mul_ne_zero h0 hp
    unfold dyE
    rw [if_neg h0, if_neg h1, tz_mul2 h0]
    omega
/-- A number's odd part, and what it is of the number. -/
theorem dyM_back {v : Int} (h : v ≠ 0) : dyM v ≠ 0 ∧ v = dyM v * 2 ^ tz v.natAbs ∧ dyM (dyM v) = dyM v := by
  obtain ⟨o, h1, h2, h3⟩ := dyM_abs h
  have hd := tz_down (x := v) (k := tz v.natAbs) h (by rw [h2]; rw [tz_mul _ h1]; exact Nat.mul_mod_right _ _)
  have e : dyM v = v.tdiv (2 ^ tz v.natAbs) := by
    unfold dyM
    rw [if_neg h]
    unfold shZ
    by_cases hz : tz v.natAbs = 0
    · rw [if_pos (by omega), hz]; simp
    · rw [if_neg (by omega), Int.neg_neg, Int.toNat_natCast]
  have hne : dyM v ≠ 0 := fun h0 => by rw [h0] at h3; simp at h3; omega
  refine ⟨hne, ?_, ?_⟩
  · rw [e]
    refine (Int.tdiv_mul_cancel ?_).symm
    refine Int.natAbs_dvd_natAbs.1 ?_
    rw [natAbs_two_pow, h2, tz_mul _ h1]
    exact Nat.dvd_mul_right _ _
  · rw [e, hd.2.2.1, ← e]
theorem rightD_V {v L : Int} (h : sz v 512) (hok : dyOk v L = true) : rightD (decide (dyM v < 0)) (dig (dyM v).natAbs) (dyE v L) = true := by
  have := dyOk_right (e := L) h
  rw [hok] at this
  exact this
/-- In units of 2 to the L, how great the power can be. -/
theorem dyE_le {v L : Int} {k : Nat} (h : v ≠ 0) (hv : sz v k) : L ≤ dyE v L ∧ dyE v L + lenW (dig (dyM v).natAbs) ≤ L + 32 * k := by
  obtain ⟨h1, h2, _⟩ := dyM_back h
  have hs : sz (shZ (dyM v) (tz v.natAbs : Nat)) k := by
    have : shZ (dyM v) (tz v.natAbs : Nat) = v := by
      unfold shZ; rw [if_pos (by omega), Int.toNat_natCast]; exact h2.symm
    rw [this]; exact hv
  have := (big_shift h1 (tz v.natAbs) k).1 hs
  unfold dyE
  rw [if_neg h]
  omega
theorem dyOk_V {v L : Int} {k : Nat} (hv : sz v k) (hL : -16384 ≤ L ∧ L + 32 * k ≤ 16384) : dyOk v L = true := by
  by_cases h : v = 0
  · simp [dyOk, h]
  · have := dyE_le (L := L) h hv
    unfold dyOk
    simp; right; omega
theorem low_V {v w L : Int} {k : Nat} (hv : sz v k) (hw : sz w k) (hk : k ≤ 511) :
    wideD (dyM v) (dyM w) (dyE v L) (dyE w L) = false ∧ dyM (sumZ (dyM v) (dyM w) (dyE v L) (dyE w L)) = dyM (v + w) ∧ dyE (sumZ (dyM v) (dyM w) (dyE v L) (dyE w L)) (lowE (dyM v) (dyM w) (dyE v L) (dyE w L)) = dyE (v + w) L ∧ sz (sumZ (dyM v) (dyM w) (dyE v L) (dyE w L)) 512 := by
  have z1 : dyM 0 = 0 := by simp [dyM]
  have key : ∀ v w : Int, sz v k → sz w k → v ≠ 0 → w ≠ 0 ∨ w = 0 → True := fun _ _ _ _ _ _ => trivial
  have wid : ∀ (v E : Int), sz v k → (v ≠ 0 → L ≤ E) → widE (dyM v) (dyE v L) E = false := by
    intro v E hv hE
    by_cases h : v = 0
    · subst h; simp [widE, z1]
    · have h1 := dyE_le (L := L) h hv
      have h2 := hE h
      unfold widE
      simp; intro _; omega
  have levV : ∀ (v E : Int), v ≠ 0 → L ≤ E → E ≤ dyE v L → lev (dyM v) (dyE v L) E * 2 ^ (E - L).toNat = v := by
    intro v E h h1 h2
    obtain ⟨q1, q2, q3⟩ := dyM_back h
    unfold lev
    rw [if_neg q1]
    unfold shZ
    rw [if_pos (by omega), Int.mul_assoc, ← Int.pow_add]
    have : (dyE v L - E).toNat + (E - L).toNat = tz v.natAbs := by
      have : dyE v L = L + tz v.natAbs := by unfold dyE; rw [if_neg h]
      omega
    rw [this]; exact q2.symm
  have fin : ∀ (E : Int), L ≤ E → sumZ (dyM v) (dyM w) (dyE v L) (dyE w L) * 2 ^ (E - L).toNat = v + w → lowE (dyM v) (dyM w) (dyE v L) (dyE w L) = E →
      dyM (sumZ (dyM v) (dyM w) (dyE v L) (dyE w L)) = dyM (v + w) ∧ dyE (sumZ (dyM v) (dyM w) (dyE v L) (dyE w L)) (lowE (dyM v) (dyM w) (dyE v L) (dyE w L)) = dyE (v + w) L := by
    intro E h1 h2 h3
    rw [← h2, dyM_mul, dyE_mul, h3]
    exact ⟨rfl, by congr 1; omega⟩
  have hsz : ∀ j : Nat, sumZ (dyM v) (dyM w) (dyE v L) (dyE w L) * 2 ^ j = v + w → sz (sumZ (dyM v) (dyM w) (dyE v L) (dyE w L)) 512 := by
    intro j h
    have h1 : sz (v + w) 512 := (hv.add hw).mono (by omega)
    rw [← h] at h1
    unfold sz at h1 ⊢
    rw [Int.natAbs_mul, natAbs_two_pow] at h1
    exact Nat.lt_of_le_of_lt (Nat.le_mul_of_pos_right _ (Nat.two_pow_pos j)) h1
  by_cases hv0 : v = 0
  · by_cases hw0 : w = 0
    · subst hv0; subst hw0
      have hwd : wideD (dyM 0) (dyM 0) (dyE 0 L) (dyE 0 L) = false := by simp [wideD, widE, z1]
      refine ⟨hwd, ?_, ?_, hsz 0 (by simp [sumZ, lev, z1])⟩
      · simp [sumZ, lev, z1]
      · simp [sumZ, lev, z1, dyE]
    · subst hv0
      have hm := (dyM_back hw0).1
      have hE : lowE (dyM 0) (dyM w) (dyE 0 L) (dyE w L) = dyE w L := by unfold lowE; rw [if_pos z1]
      have h1 := dyE_le (L := L) hw0 hw
      have hwd : wideD (dyM 0) (dyM w) (dyE 0 L) (dyE w L) = false := by
        unfold wideD; rw [hE, wid 0 _ hv (fun h => absurd rfl h), wid w _ hw (fun _ => h1.1)]; rfl
      have hs : sumZ (dyM 0) (dyM w) (dyE 0 L) (dyE w L) * 2 ^ (dyE w L - L).toNat = 0 + w := by
        unfold sumZ
        rw [hE, show lev (dyM 0) (dyE 0 L) (dyE w L) = 0 by simp [lev, z1], Int.zero_add, Int.zero_add]
        exact levV w _ hw0 h1.1 (Int.le_refl _)
      obtain ⟨a1, a2⟩ := fin _ h1.1 hs hE
      exact ⟨hwd, a1, a2, hsz _ hs⟩
  · by_cases hw0 : w = 0
    · subst hw0
      have hm := (dyM_back hv0).1
      have hE : lowE (dyM v) (dyM 0) (dyE v L) (dyE 0 L) = dyE v L := by unfold lowE; rw [if_neg hm, if_pos z1]
      have h1 := dyE_le (L := L) hv0 hv
      have hwd : wideD (dyM v) (dyM 0) (dyE v L) (dyE 0 L) = false := by
        unfold wideD; rw [hE, wid v _ hv (fun _ => h1.1), wid 0 _ hw (fun h => absurd rfl h)]; rfl
      have hs : sumZ (dyM v) (dyM 0) (dyE v L) (dyE 0 L) * 2 ^ (dyE v L - L).toNat = v + 0 := by
        unfold sumZ
        rw [hE, show lev (dyM 0) (dyE 0 L) (dyE v L) = 0 by simp [lev, z1], Int.add_zero, Int.add_zero]
        exact levV v _ hv0 h1.1 (Int.le_refl _)
      obtain ⟨a1, a2⟩ := fin _ h1.1 hs hE
      exact ⟨hwd, a1, a2, hsz _ hs⟩
    · have hm := (dyM_back hv0).1
      have hm2 := (dyM_back hw0).1
      have h1 := dyE_le (L := L) hv0 hv
      have h2 := dyE_le (L := L) hw0 hw
      have hE : lowE (dyM v) (dyM w) (dyE v L) (dyE w L) = min (dyE v L) (dyE w L) := by unfold lowE; rw [if_neg hm, if_neg hm2]
      have hwd : wideD (dyM v) (dyM w) (dyE v L) (dyE w L) = false := by
        unfold wideD; rw [hE, wid v _ hv (fun _ => by omega), wid w _ hw (fun _ => by omega)]; rfl
      have hs : sumZ (dyM v) (dyM w) (dyE v L) (dyE w L) * 2 ^ (min (dyE v L) (dyE w L) - L).toNat = v + w := by
        unfold sumZ
        rw [hE, Int.add_mul, levV v _ hv0 (by omega) (by omega), levV w _ hw0 (by omega) (by omega)]
      obtain ⟨a1, a2⟩ := fin _ (by omega) hs hE
      exact ⟨hwd, a1, a2, hsz _ hs⟩

/-- The number v times 2 to the L. -/
abbrev NV (L v : Int) (i : Sid) : PV := D (decide (dyM v < 0)) i (dig (dyM v).natAbs) (dyE v L)
theorem dyE_zero {v L : Int} (h : dyM v = 0) : dyE v L = 0 := by
  by_cases hh : v = 0
  · simp [dyE, hh]
  · exact absurd h (dyM_back hh).1
theorem Add_V {n : Nat} (hn : 0 < n) (L v w s : Int) (ia ib : Sid) (k : Nat) (hv : sz v k) (hw : sz w k) (hk : k ≤ 511) (hL : -16384 ≤ L ∧ L + 32 * (k + 1) ≤ 16384) (hs : v + w = s) {Q : PV → Nat → List Nat → Prop}
    (hQ : ∀ (i' : Sid) (n' : Nat), n ≤ n' → newSid n n' i' → Q (.tup [NV L s i', .int .i64 0]) n' []) : PCall Tryz.prog 62 [NV L v ia, NV L w ib] n Q := by
  obtain ⟨q1, q2, q3, q4⟩ := low_V (L := L) hv hw hk
  have ok1 := dyOk_V (L := L) hv (by omega)
  have ok2 := dyOk_V (L := L) hw (by omega)
  have ok3 : dyOk (v + w) L = true := dyOk_V (hv.add hw) (by omega)
  refine AddD_Z hn (dyM v) (dyM w) (dyE v L) (dyE w L) ia ib ((sz_dyM hv).mono (by omega)) ((sz_dyM hw).mono (by omega)) (rightD_V (hv.mono (by omega)) ok1) (rightD_V (hw.mono (by omega)) ok2) dyE_zero dyE_zero (fun _ => q4) fun i n' an al ae err g1 d1 ha => ?_
  unfold ansD at ha
  rw [q1] at ha
  simp only [Bool.false_eq_true, if_false, if_true] at ha
  have hok : dyOk (sumZ (dyM v) (dyM w) (dyE v L) (dyE w L)) (lowE (dyM v) (dyM w) (dyE v L) (dyE w L)) = true := by
    have h1 := dyOk_right (e := lowE (dyM v) (dyM w) (dyE v L) (dyE w L)) q4
    have h2 := rightD_V ((hv.add hw).mono (show k + 1 ≤ 512 by omega)) ok3
    rw [← q2, ← q3] at h2
    exact h1.symm.trans h2
  rw [if_pos hok, q2, q3, hs] at ha
  obtain ⟨rfl, rfl, rfl, rfl⟩ := ha
  exact hQ i n' g1 d1
theorem dyM_neg (v : Int) : dyM (-v) = - dyM v := by
  unfold dyM
  by_cases h : v = 0
  · subst h; rfl
  · rw [if_neg h, if_neg (by omega), Int.natAbs_neg, shZ_negate]
theorem dyE_neg (v L : Int) : dyE (-v) L = dyE v L := by
  unfold dyE
  by_cases h : v = 0
  · subst h; rfl
  · rw [if_neg h, if_neg (by omega), Int.natAbs_neg]
theorem Sub_V {n : Nat} (hn : 0 < n) (L v w s : Int) (ia ib : Sid) (k : Nat) (hv : sz v k) (hw : sz w k) (hk : k ≤ 511) (hL : -16384 ≤ L ∧ L + 32 * (k + 1) ≤ 16384) (hs : v - w = s) {Q : PV → Nat → List Nat → Prop}
    (hQ : ∀ (i' : Sid) (n' : Nat), n ≤ n' → newSid n n' i' → Q (.tup [NV L s i', .int .i64 0]) n' []) : PCall Tryz.prog 34 [NV L v ia, NV L w ib] n Q := by
  obtain ⟨q1, q2, q3, q4⟩ := low_V (L := L) hv (sz_neg hw) hk
  rw [dyM_neg, dyE_neg] at q1 q2 q3 q4
  have hw1 := wideD_neg (dyM v) (dyM w) (dyE v L) (dyE w L)
  have hlow := lowE_neg (dyM v) (dyM w) (dyE v L) (dyE w L)
  rw [hw1] at q1
  rw [hlow] at q3
  have ok1 := dyOk_V (L := L) hv (by omega)
  have ok2 := dyOk_V (L := L) hw (by omega)
  have hsv : sz (v + -w) (k + 1) := hv.add (sz_neg hw)
  have ok3 : dyOk (v + -w) L = true := dyOk_V hsv (by omega)
  refine SubD_Z hn (dyM v) (dyM w) (dyE v L) (dyE w L) ia ib ((sz_dyM hv).mono (by omega)) ((sz_dyM hw).mono (by omega)) (rightD_V (hv.mono (by omega)) ok1) (rightD_V (hw.mono (by omega)) ok2) dyE_zero dyE_zero (fun _ => q4) fun i n' an al ae err g1 d1 ha => ?_
  unfold ansD at ha
  rw [q1] at ha
  simp only [Bool.false_eq_true, if_false, if_true] at ha
  have hok : dyOk (sumZ (dyM v) (-dyM w) (dyE v L) (dyE w L)) (lowE (dyM v) (dyM w) (dyE v L) (dyE w L)) = true := by
    have h1 := dyOk_right (e := lowE (dyM v) (dyM w) (dyE v L) (dyE w L)) q4
    have h2 := rightD_V (hsv.mono (show k + 1 ≤ 512 by omega)) ok3
    rw [← q2, ← q3] at h2
    exact h1.symm.trans h2
  rw [if_pos hok, q2, q3, show v + -w = s by omega] at ha
  obtain ⟨rfl, rfl, rfl, rfl⟩ := ha
  exact hQ i n' g1 d1
theorem prod_V (v w L L2 : Int) : dyM (dyM v * dyM w) = dyM (v * w) ∧ dyE (dyM v * dyM w) (dyE v L + dyE w L2) = dyE (v * w) (L + L2) := by
  by_cases hv : v = 0
  · subst hv; simp [dyM, dyE]
  · by_cases hw : w = 0
    · subst hw; simp [dyM, dyE]
    · have e1 := (dyM_back hv).2.1
      have e2 := (dyM_back hw).2.1
      have e3 : v * w = dyM v * dyM w * 2 ^ (tz v.natAbs + tz w.natAbs) := by
        rw [Int.pow_add, Int.mul_assoc, Int.mul_left_comm (dyM w), ← Int.mul_assoc (dyM v), ← e1, ← e2]
      have d1 : dyE v L = L + tz v.natAbs := by unfold dyE; rw [if_neg hv]
      have d2 : dyE w L2 = L2 + tz w.natAbs := by unfold dyE; rw [if_neg hw]
      rw [e3, dyM_mul, dyE_mul, d1, d2]
      exact ⟨rfl, by congr 1; omega⟩
theorem Mul_V {n : Nat} (hn : 0 < n) (L L2 v w s : Int) (ia ib : Sid) (hia : ia.f < n) (hib : ib.f < n) (k m : Nat) (hv : sz v k) (hw : sz w m) (hk : k + m ≤ 512) (hL : -16384 ≤ L ∧ L + 32 * k ≤ 16384) (hL2 : -16384 ≤ L2 ∧ L2 + 32 * m ≤ 16384) (hLL : -16384 ≤ L + L2 ∧ L + L2 + 32 * (k + m) ≤ 16384) (hs : v * w = s) {Q : PV → Nat → List Nat → Prop}
    (hQ : ∀ (i' : Sid) (n' : Nat), n ≤ n' → newSid n n' i' → Q (.tup [NV (L + L2) s i', .int .i64 0]) n' []) : PCall Tryz.prog 64 [NV L v ia, NV L2 w ib] n Q := by
  have ok1 := dyOk_V (L := L) hv (by omega)
  have ok2 := dyOk_V (L := L2) hw (by omega)
  have r1 := rightD_V (hv.mono (by omega)) ok1
  have r2 := rightD_V (hw.mono (by omega)) ok2
  have he := rightD_E r1
  have hf := rightD_E r2
  have ok3 : dyOk (v * w) (L + L2) = true := dyOk_V (hv.mul hw) (by omega)
  obtain ⟨q1, q2⟩ := prod_V v w L L2
  have sq : sz (dyM v * dyM w) 512 := ((sz_dyM hv).mul (sz_dyM hw)).mono hk
  refine MulD_Z hn (dyM v) (dyM w) (dyM v * dyM w) (dyE v L) (dyE w L2) ia ib hia hib k m (sz_dyM hv) (sz_dyM hw) hk rfl r1 r2 he hf fun i n' g1 d1 => ?_
  have hok : dyOk (dyM v * dyM w) (dyE v L + dyE w L2) = true := by
    have h1 := dyOk_right (e := dyE v L + dyE w L2) sq
    have h2 := rightD_V ((hv.mul hw).mono hk) ok3
    rw [← q1, ← q2] at h2
    exact h1.symm.trans h2
  rw [if_pos hok, q1, q2, hs]
  exact hQ i n' g1 d1
theorem NV_self (L v : Int) (i : Sid) : NV (dyE v L) (dyM v) i = NV L v i := by
  by_cases h : v = 0
  · subst h; simp [NV, dyM, dyE]
  · obtain ⟨h1, _, h2⟩ := dyM_back h
    have h3 : dyE (dyM v) (dyE v L) = dyE v L := by
      have ht : tz (dyM v).natAbs = 0 := by
        obtain ⟨o, a1, _, a3⟩ := dyM_abs h
        rw [a3]; exact tz_odd a1
      rw [dyE, if_neg h1, ht]; simp
    simp only [NV, h2, h3]
/-- The second one in its own units. -/
theorem Mul_VR {n : Nat} (hn : 0 < n) (L v w s : Int) (ia ib : Sid) (hia : ia.f < n) (hib : ib.f < n) (k m : Nat) (hv : sz v k) (hw : sz (dyM w) m) (hk : k + m ≤ 512) (hL : -16384 ≤ L ∧ L + 32 * k ≤ 16384) (hL2 : -16384 ≤ dyE w L ∧ dyE w L + 32 * m ≤ 16384) (hLL : -16384 ≤ L + dyE w L ∧ L + dyE w L + 32 * (k + m) ≤ 16384) (hs : v * dyM w = s) {Q : PV → Nat → List Nat → Prop}
    (hQ : ∀ (i' : Sid) (n' : Nat), n ≤ n' → newSid n n' i' → Q (.tup [NV (L + dyE w L) s i', .int .i64 0]) n' []) : PCall Tryz.prog 64 [NV L v ia, NV L w ib] n Q := by
  rw [← NV_self L w ib]
  exact Mul_V hn L (dyE w L) v (dyM w) s ia ib hia hib k m hv hw hk hL hL2 hLL hs hQ
theorem Mul_VL {n : Nat} (hn : 0 < n) (L v w s : Int) (ia ib : Sid) (hia : ia.f < n) (hib : ib.f < n) (k m : Nat) (hv : sz v k) (hw : sz (dyM w) m) (hk : k + m ≤ 512) (hL : -16384 ≤ L ∧ L + 32 * k ≤ 16384) (hL2 : -16384 ≤ dyE w L ∧ dyE w L + 32 * m ≤ 16384) (hLL : -16384 ≤ L + dyE w L ∧ L + dyE w L + 32 * (k + m) ≤ 16384) (hs : v * dyM w = s) {Q : PV → Nat → List Nat → Prop}
    (hQ : ∀ (i' : Sid) (n' : Nat), n ≤ n' → newSid n n' i' → Q (.tup [NV (L + dyE w L) s i', .int .i64 0]) n' []) : PCall Tryz.prog 64 [NV L w ib, NV L v ia] n Q := by
  rw [← NV_self L w ib]
  rw [Int.add_comm] at hQ
  exact Mul_V hn (dyE w L) L (dyM w) v s ib ia hib hia m k hw hv (by omega) hL2 hL (by omega) (by rw [Int.mul_comm]; exact hs) hQ
/-- A right number, in units of a lesser power. -/
theorem right_V {x e L : Int} {k : Nat} (hM : dyM x = x) (h0 : x = 0 → e = 0) (ht : x ≠ 0 → tz x.natAbs = 0) (hL : L ≤ e) (hx : sz x k) {j : Nat} (hj : e - L ≤ 32 * j) : ∃ v, x = dyM v ∧ e = dyE v L ∧ sz v (k + j) ∧ (x = 0 ↔ v = 0) := by
  refine ⟨x * 2 ^ (e - L).toNat, by rw [dyM_mul, hM], ?_, ?_, ?_⟩
  · rw [dyE_mul]
    unfold dyE
    by_cases h : x = 0
    · rw [if_pos h, h0 h]
    · rw [if_neg h, ht h]; omega
  · have : shZ x (e - L) = x * 2 ^ (e - L).toNat := by unfold shZ; rw [if_pos (by omega)]
    rw [← this]
    exact shZ_sz rfl hx hj
  · have hp := two_pow_pos' (e - L).toNat
    constructor
    · intro h; rw [h]; simp
    · intro h
      rcases Int.mul_eq_zero.1 h with h | h
      · exact h
      · omega
end Go.Proofs.YtphndngifjgeoaaGreatDoor

/-! DyI: What the functions of layer 2 do, by value: which of two is more. -/
set_option linter.unusedVariables false
set_option linter.unusedSimpArgs false
namespace Go.Proofs.YtphndngifjgeoaaGreatDoor
open Go.Proofs

/-- Which of two is more. -/
def ordD (x y e f : Int) : Int :=
  if cmpZ x < cmpZ y then -1 else if cmpZ y < cmpZ x then 1 else if x = 0 then 0
  else if topD (dig y.natAbs) f < topD (dig x.natAbs) e then cmpZ x else if topD (dig x.natAbs) e < topD (dig y.natAbs) f then - cmpZ x else cmpZ (sumZ x (-y) e f)
theorem cmpZ_cases (x : Int) : (x < 0 ∧ cmpZ x = -1) ∨ (x = 0 ∧ cmpZ x = 0) ∨ (0 < x ∧ cmpZ x = 1) := by
  unfold cmpZ; split
  · exact .inl ⟨by assumption, rfl⟩
  · split
    · exact .inr (.inl ⟨by assumption, rfl⟩)
    · exact .inr (.inr ⟨by omega, rfl⟩)
theorem topD_ne {x e : Int} (h : x ≠ 0) : topD (dig x.natAbs) e = lenW (dig x.natAbs) + e := by unfold topD; rw [if_neg (dig_ne h).2]
/-- Of one top, two are not wide. -/
theorem top_narrow {x y e f : Int} (hx : sz x 512) (hy : sz y 512) (hx0 : x ≠ 0) (hy0 : y ≠ 0) (ht : topD (dig x.natAbs) e = topD (dig y.natAbs) f) : wideD x y e f = false := by
  rw [topD_ne hx0, topD_ne hy0] at ht
  have h1 := lenW_small hx
  have h2 := lenW_small hy
  unfold wideD widE lowE
  rw [if_neg hx0, if_neg hy0]
  simp; constructor <;> (intro _; omega)
theorem top_more {x y e f : Int} (hx0 : x ≠ 0) (hy0 : y ≠ 0) (h : topD (dig y.natAbs) f < topD (dig x.natAbs) e) : (lev y f (lowE x y e f)).natAbs < (lev x e (lowE x y e f)).natAbs := by
  rw [topD_ne hx0, topD_ne hy0] at h
  have hx := lenZ_bits hx0
  have hy := lenZ_bits hy0
  have hE : lowE x y e f = min e f := by unfold lowE; rw [if_neg hx0, if_neg hy0]
  generalize lowE x y e f = E at hE
  obtain ⟨k, hk⟩ : ∃ k : Nat, e - E = k := ⟨(e - E).toNat, by omega⟩
  obtain ⟨m, hm⟩ : ∃ m : Nat, f - E = m := ⟨(f - E).toNat, by omega⟩
  unfold lev
  rw [if_neg hx0, if_neg hy0, shZ_abs, shZ_abs, if_pos (by omega), if_pos (by omega), hk, hm, Int.toNat_natCast, Int.toNat_natCast]
  have h3 : 2 ^ (lenW (dig y.natAbs) + m + 1) ≤ 2 ^ (lenW (dig x.natAbs) + k) := Nat.pow_le_pow_right (by omega) (by omega)
  rw [Nat.pow_succ, Nat.pow_add, Nat.pow_add] at h3
  have h4 := Nat.mul_lt_mul_of_pos_right hy.1 (show 0 < 2 ^ m from Nat.pos_of_ne_zero (by simp))
  have h5 := Nat.mul_le_mul_right (2 ^ k) hx.2
  rw [Nat.mul_assoc] at h5
  omega
theorem lev_sign {x e E : Int} (hE : x ≠ 0 → E ≤ e) : cmpZ (lev x e E) = cmpZ x := by
  unfold lev
  by_cases h0 : x = 0
  · rw [if_pos h0, h0]
  · rw [if_neg h0]
    have h2 : shZ x (e - E) = x * 2 ^ (e - E).toNat := by unfold shZ; rw [if_pos (by have := hE h0; omega)]
    rw [h2]
    have hp := two_pow_pos' (e - E).toNat
    rcases cmpZ_cases x with ⟨h, h1⟩ | ⟨h, h1⟩ | ⟨h, h1⟩
    · have := Int.mul_neg_of_neg_of_pos h hp
      unfold cmpZ; rw [if_pos this, if_pos h]
    · exact absurd h h0
    · have := Int.mul_pos h hp
      unfold cmpZ; rw [if_neg (by omega), if_neg (by omega), if_neg (by omega), if_neg (by omega)]
theorem lev_neg (y f E : Int) : lev (-y) f E = - lev y f E := by
  unfold lev
  by_cases h : y = 0
  · subst h; rfl
  · rw [if_neg h, if_neg (by omega), shZ_negate]
theorem sum_diff (x y e f : Int) : sumZ x (-y) e f = lev x e (lowE x y e f) - lev y f (lowE x y e f) := by
  unfold sumZ; rw [lowE_neg, lev_neg]; omega
theorem cmp_of {p q : Int} {s : Int} (h : (s = -1 ∧ p < q) ∨ (s = 1 ∧ q < p)) : cmpZ (p - q) = s := by
  unfold cmpZ
  rcases h with ⟨rfl, h⟩ | ⟨rfl, h⟩
  · rw [if_pos (by omega)]
  · rw [if_neg (by omega), if_neg (by omega)]
/-- The difference's sign says it. -/
theorem ordD_diff {x y e f : Int} (h1 : x = 0 → e = 0) (h2 : y = 0 → f = 0) : cmpZ (sumZ x (-y) e f) = ordD x y e f := by
  obtain ⟨q1, q2, q3⟩ := lowE_le h1 h2
  have sX := lev_sign (x := x) (e := e) (E := lowE x y e f) q1
  have sY := lev_sign (x := y) (e := f) (E := lowE x y e f) q2
  have tm := fun a b => top_more (x := x) (y := y) (e := e) (f := f) a b
  have tl : x ≠ 0 → y ≠ 0 → topD (dig x.natAbs) e < topD (dig y.natAbs) f → (lev x e (lowE x y e f)).natAbs < (lev y f (lowE x y e f)).natAbs := fun a b c => by
    have := top_more (x := y) (y := x) (e := f) (f := e) b a c
    rw [lowE_swap h1 h2] at this
    exact this
  unfold ordD
  by_cases hc1 : cmpZ x < cmpZ y
  · rw [if_pos hc1, sum_diff]
    generalize lev x e (lowE x y e f) = X at *
    generalize lev y f (lowE x y e f) = Y at *
    have := cmpZ_cases X; have := cmpZ_cases Y
    exact cmp_of (.inl ⟨rfl, by omega⟩)
  · rw [if_neg hc1]
    by_cases hc2 : cmpZ y < cmpZ x
    · rw [if_pos hc2, sum_diff]
      generalize lev x e (lowE x y e f) = X at *
      generalize lev y f (lowE x y e f) = Y at *
      have := cmpZ_cases X; have := cmpZ_cases Y
      exact cmp_of (.inr ⟨rfl, by omega⟩)
    · rw [if_neg hc2]
      by_cases hx0 : x = 0
      · rw [if_pos hx0]
        have hy0 : y = 0 := by have := cmpZ_cases x; have := cmpZ_cases y; omega
        subst hx0; subst hy0
        simp [sumZ, lev, cmpZ]
      · rw [if_neg hx0]
        have hy0 : y ≠ 0 := by have := cmpZ_cases x; have := cmpZ_cases y; omega
        by_cases ht1 : topD (dig y.natAbs) f < topD (dig x.natAbs) e
        · rw [if_pos ht1, sum_diff]
          have := tm hx0 hy0 ht1
          generalize lev x e (lowE x y e f) = X at *
          generalize lev y f (lowE x y e f) = Y at *
          have := cmpZ_cases X; have := cmpZ_cases Y; have := cmpZ_cases x
          refine cmp_of ?_
          omega
        · rw [if_neg ht1]
          by_cases ht2 : topD (dig x.natAbs) e < topD (dig y.natAbs) f
          · rw [if_pos ht2, sum_diff]
            have := tl hx0 hy0 ht2
            generalize lev x e (lowE x y e f) = X at *
            generalize lev y f (lowE x y e f) = Y at *
            have := cmpZ_cases X; have := cmpZ_cases Y; have := cmpZ_cases x
            refine cmp_of ?_
            omega
          · rw [if_neg ht2]
theorem ordD_swap {x y e f : Int} (h1 : x = 0 → e = 0) (h2 : y = 0 → f = 0) : ordD y x f e = - ordD x y e f := by
  rw [← ordD_diff h1 h2, ← ordD_diff h2 h1, sum_diff, sum_diff, lowE_swap h1 h2]
  generalize lev x e (lowE x y e f) = X
  generalize lev y f (lowE x y e f) = Y
  have := cmpZ_cases (X - Y); have := cmpZ_cases (Y - X)
  omega
theorem ordD_same {x y e f : Int} (hx : dyM x = x) (hy : dyM y = y) (h1 : x = 0 → e = 0) (h2 : y = 0 → f = 0) (tx : x ≠ 0 → tz x.natAbs = 0) (ty : y ≠ 0 → tz y.natAbs = 0) : ordD x y e f = 0 ↔ x = y ∧ e = f := by
  rw [← ordD_diff h1 h2, sum_diff]
  obtain ⟨q1, q2, q3⟩ := lowE_le h1 h2
  have sX := lev_sign (x := x) (e := e) (E := lowE x y e f) q1
  have sY := lev_sign (x := y) (e := f) (E := lowE x y e f) q2
  constructor
  · intro h
    have hXY : lev x e (lowE x y e f) = lev y f (lowE x y e f) := by
      have := cmpZ_cases (lev x e (lowE x y e f) - lev y f (lowE x y e f))
      omega
    by_cases hx0 : x = 0
    · have hy0 : y = 0 := by
        rw [hXY] at sX
        have := cmpZ_cases x; have := cmpZ_cases y
        omega
      exact ⟨by omega, by rw [h1 hx0, h2 hy0]⟩
    · have hy0 : y ≠ 0 := by
        intro hy0
        rw [hXY] at sX
        have := cmpZ_cases x; have := cmpZ_cases y
        omega
      have a1 := q1 hx0
      have a2 := q2 hy0
      generalize lowE x y e f = E at *
      have e1 : ∀ (x e : Int), x ≠ 0 → E ≤ e → lev x e E = x * 2 ^ (e - E).toNat := fun x e h0 hE => by
        unfold lev; rw [if_neg h0]; unfold shZ; rw [if_pos (by omega)]
      rw [e1 x e hx0 a1, e1 y f hy0 a2] at hXY
      have hM := congrArg dyM hXY
      rw [dyM_mul, dyM_mul, hx, hy] at hM
      have hEE := congrArg (fun q => dyE q E) hXY
      simp only [dyE_mul] at hEE
      unfold dyE at hEE
      rw [if_neg hx0, if_neg hy0, tx hx0, ty hy0] at hEE
      exact ⟨hM, by omega⟩
  · rintro ⟨rfl, rfl⟩
    rw [Int.sub_self]; rfl

theorem RefSubD_00 {n : Nat} (hn : 0 < n) (ia ib : Sid) (hia : ia.f < n) (hib : ib.f < n) {Q : PV → Nat → List Nat → Prop}
    (hQ : ∀ i1 n1, n ≤ n1 → Q (D false i1 [] 0) n1 []) : PCall Tryz.prog 28 [D false ia [] 0, D false ib [] 0] n Q := by
  have hw : wideD 0 0 0 0 = false := by simp [wideD, widE]
  have hs : sumZ 0 (-0) 0 0 = 0 := by simp [sumZ, lev]
  have hd : dyM 0 = 0 := by simp [dyM]
  have := @RefSubD_call n hn 0 0 0 0 ia ib hia hib (sz_zero _) (sz_zero _) (fun _ => rfl) (fun _ => rfl) (by omega) (by omega) hw (by rw [hs]; exact sz_zero _) Q
  rw [hs, hd, if_pos rfl] at this
  simp only [Int.natAbs_zero, dig_zero] at this
  exact this (fun i1 n1 g1 => hQ i1 n1 g1)
theorem diff_sz {x y e f : Int} (h1 : x = 0 → e = 0) (h2 : y = 0 → f = 0) (hw : wideD x y e f = false) (hc : cmpZ x = cmpZ y) : sz (sumZ x (-y) e f) 512 := by
  unfold wideD at hw
  rw [Bool.or_eq_false_iff] at hw
  obtain ⟨q1, q2, q3⟩ := lowE_le h1 h2
  have sX := lev_sign (x := x) (e := e) (E := lowE x y e f) q1
  have sY := lev_sign (x := y) (e := f) (E := lowE x y e f) q2
  rw [sum_diff]
  have zX : sz (lev x e (lowE x y e f)) 512 := by
    by_cases h : x = 0
    · rw [h]; simp [lev]; exact sz_zero 512
    · exact lev_sz (q1 h) hw.1
  have zY : sz (lev y f (lowE x y e f)) 512 := by
    by_cases h : y = 0
    · rw [h]; simp [lev]; exact sz_zero 512
    · exact lev_sz (q2 h) hw.2
  generalize lev x e (lowE x y e f) = X at *
  generalize lev y f (lowE x y e f) = Y at *
  have := cmpZ_cases X; have := cmpZ_cases Y
  unfold sz at *
  obtain ⟨B, hB⟩ : ∃ B, B = 4294967296 ^ 512 := ⟨_, rfl⟩
  rw [← hB] at zX zY ⊢
  omega
end Go.Proofs.YtphndngifjgeoaaGreatDoor
