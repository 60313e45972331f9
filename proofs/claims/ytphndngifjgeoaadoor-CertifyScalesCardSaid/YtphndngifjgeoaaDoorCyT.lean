/- A number of Go's own times a power of two, and a matrix copied, by value. -/
import Derived.Test.YtphndngifjgeoaaDoorCyS
import Derived.Test.YtphndngifjgeoaaDoorCdC
set_option linter.unusedVariables false
set_option linter.unusedSimpArgs false
set_option maxRecDepth 20000
set_option maxHeartbeats 4000000
namespace Go.Proofs.YtphndngifjgeoaaDoor
open Go.Proofs
theorem ext100 : isExt Tryd.prog 100 Extern.MathFloatBits.float64frombits := ⟨Tryd.f100, Tryd.func100, by kernel_rfl, rfl, by kernel_rfl, by kernel_rfl⟩
theorem ext97 : isExt Tryd.prog 97 Extern.MathFloatBits.float64bits := ⟨Tryd.f97, Tryd.func97, by kernel_rfl, rfl, by kernel_rfl, by kernel_rfl⟩
@[simp ↓] theorem pcall100 {s : St} {dr : Bool} {d : Option Tmp} {K : St → Prop} (x : Operand) (ts : Array TypeId) : PStepC Tryd.prog dr d (.call { callee := .value (.func 100), args := #[x], argTypes := ts }) K s ↔ okDst s d ∧ oz (fromV (s.ev x)) (fun v => K (s.put d v)) := PS_frombits ext100 x ts
@[simp ↓] theorem pcall97 {s : St} {dr : Bool} {d : Option Tmp} {K : St → Prop} (x : Operand) (ts : Array TypeId) : PStepC Tryd.prog dr d (.call { callee := .value (.func 97), args := #[x], argTypes := ts }) K s ↔ okDst s d ∧ oz (bitsV (s.ev x)) (fun v => K (s.put d v)) := PS_bits ext97 x ts
@[simp] theorem closed_float (k : FloatKind) (n : Nat) : (PV.float k n).closed = true := nrfl rfl
@[simp] theorem closedR_float (k : FloatKind) (n : Nat) : (PV.float k n).closedR = true := nrfl rfl
theorem andNot_u64 {P : Program} {t : TypeId} {a b c : Nat} (ha : a < 18446744073709551616) (hb : b < 18446744073709551616) (hc : a &&& (18446744073709551615 - b) = c) : binPV P .andNot t (.int .u64 (a : Int)) (.int .u64 (b : Int)) = some (.int .u64 (c : Int)) := by
  have := and_lt (b := 18446744073709551615 - b) (k := 64) (show a < 2 ^ 64 by omega)
  rw [hc] at this
  rw [binPV_andNot, bits_u64, ofInt_nat, ofInt_nat, BitVec.toNat_and, BitVec.toNat_not, BitVec.toNat_ofNat, BitVec.toNat_ofNat, Nat.mod_eq_of_lt (by omega), Nat.mod_eq_of_lt (by omega), show 2 ^ 64 - 1 - b = 18446744073709551615 - b by omega, hc, wrap_u64_nat _ (by omega)]
theorem F_call {n : Nat} (hn : 0 < n) (b : Nat) {Q : PV → Nat → List Nat → Prop} (hQ : Q (.float .f64 b) n []) : PCall Tryd.prog 59 [.int .u64 (b : Int)] n Q := by
  refine of59 hn ?_
  simpa (disch := omega) [c59] using hQ
theorem Abs_call {n : Nat} (hn : 0 < n) (b : Nat) (hb : b < 18446744073709551616) {Q : PV → Nat → List Nat → Prop} (hQ : Q (.float .f64 (b % 9223372036854775808)) n []) : PCall Tryd.prog 147 [.float .f64 b] n Q := by
  refine of147 hn ?_
  obtain ⟨m, hm⟩ : ∃ m, m = b % 9223372036854775808 := ⟨_, rfl⟩
  rw [← hm] at hQ
  have h : binPV Tryd.prog .andNot 35 (.int .u64 (b : Int)) (.int .u64 9223372036854775808) = some (.int .u64 (m : Int)) := andNot_u64 (b := 9223372036854775808) hb (by omega) (by rw [hm]; exact and_low)
  simpa (disch := omega) [-binPV_andNot, c147, h] using hQ
/-! ### the model's order -/
theorem ord_zero {b : Nat} (hb : b < 18446744073709551616) (h : b % 9223372036854775808 ≤ 9218868437227405312) (t : TypeId) : binPV Tryd.prog .eql t (.float .f64 b) (.float .f64 0) = some (.bool (decide (b % 9223372036854775808 = 0))) := by
  rw [binPV_eqlf]
  have e := order_sB (bN b) false h (show 0 ≤ 9218868437227405312 by omega)
  rw [← sB_self b hb, show sB false 0 = 0 from rfl] at e
  rw [e]
  obtain ⟨m, hm⟩ : ∃ m, m = b % 9223372036854775808 := ⟨_, rfl⟩
  rw [← hm]
  congr 2
  unfold ordI sgz
  by_cases h0 : m = 0
  · subst h0; cases bN b <;> rfl
  · rw [decide_eq_false h0]
    cases bN b
    · simp only [Bool.false_eq_true, if_false]
      rw [if_neg (by omega), if_neg (by omega)]; rfl
    · simp only [if_true, Bool.false_eq_true, if_false]
      rw [if_pos (by omega)]; rfl
theorem ord_self {b : Nat} (hb : b < 18446744073709551616) (h : b % 9223372036854775808 ≤ 9218868437227405312) (t : TypeId) : binPV Tryd.prog .neq t (.float .f64 b) (.float .f64 b) = some (.bool false) := by
  rw [binPV_neqf]
  have e := order_sB (bN b) (bN b) h h
  rw [← sB_self b hb] at e
  rw [e]
  unfold ordI
  rw [if_neg (by omega), if_pos rfl]; rfl
theorem ord_max {m : Nat} (h : m < 9218868437227405312) (t : TypeId) : binPV Tryd.prog .gtr t (.float .f64 m) (.float .f64 9218868437227405311) = some (.bool false) := by
  rw [binPV_gtrf]
  have e := order_sB false false (show m ≤ 9218868437227405312 by omega) (show 9218868437227405311 ≤ 9218868437227405312 by omega)
  rw [show sB false m = m from rfl, show sB false 9218868437227405311 = 9218868437227405311 from rfl] at e
  rw [e]
  unfold ordI sgz
  simp only [Bool.false_eq_true, if_false]
  by_cases hc : m = 9218868437227405311
  · rw [if_neg (by omega), if_pos (by omega)]; rfl
  · rw [if_pos (by omega)]; rfl
theorem ord_norm {m : Nat} (h : m < 9218868437227405312) (h2 : 4503599627370496 ≤ m) (t : TypeId) : binPV Tryd.prog .lss t (.float .f64 m) (.float .f64 4503599627370496) = some (.bool false) := by
  rw [binPV_lssf]
  have e := order_sB false false (show m ≤ 9218868437227405312 by omega) (show 4503599627370496 ≤ 9218868437227405312 by omega)
  rw [show sB false m = m from rfl, show sB false 4503599627370496 = 4503599627370496 from rfl] at e
  rw [e]
  unfold ordI sgz
  simp only [Bool.false_eq_true, if_false]
  by_cases hc : m = 4503599627370496
  · rw [if_neg (by omega), if_pos (by omega)]; rfl
  · rw [if_neg (by omega), if_neg (by omega)]; rfl
theorem IsInf_call {n : Nat} (hn : 0 < n) (b : Nat) (hb : b < 18446744073709551616) (h : b % 9223372036854775808 < 9218868437227405312) {Q : PV → Nat → List Nat → Prop} (hQ : Q (.bool false) n []) : PCall Tryd.prog 130 [.float .f64 b, .int .i64 0] n Q := by
  refine of130 hn ?_
  simp (disch := omega) [c130]
  refine CallK.of (by simp) (Abs_call hn b hb ?_)
  simpa (disch := omega) [-binPV_gtrf, ord_max h] using hQ
theorem IsNaN_call {n : Nat} (hn : 0 < n) (b : Nat) (hb : b < 18446744073709551616) (h : b % 9223372036854775808 < 9218868437227405312) {Q : PV → Nat → List Nat → Prop} (hQ : Q (.bool false) n []) : PCall Tryd.prog 131 [.float .f64 b] n Q := by
  refine of131 hn ?_
  simpa (disch := omega) [-binPV_neqf, c131, ord_self hb (Nat.le_of_lt h)] using hQ
theorem normalize_call {n : Nat} (hn : 0 < n) (b : Nat) (hb : b < 18446744073709551616) (h : b % 9223372036854775808 < 9218868437227405312) (h2 : 4503599627370496 ≤ b % 9223372036854775808) {Q : PV → Nat → List Nat → Prop} (hQ : Q (.tup [.float .f64 b, .int .i64 0]) n []) : PCall Tryd.prog 132 [.float .f64 b] n Q := by
  refine of132 hn ?_
  simp (disch := omega) [c132]
  refine CallK.of (by simp) (Abs_call hn b hb ?_)
  simpa (disch := omega) [-binPV_lssf, ord_norm h h2] using hQ
theorem shl52 {P : Program} {t : TypeId} {y : Nat} (hy : y < 4096) : binPV P .shl t (.int .u64 (y : Int)) (.int .u64 52) = some (.int .u64 ((4503599627370496 * y : Nat) : Int)) := by
  rw [binPV_shl, if_neg (by omega)]
  have e : (y : Int) * 2 ^ (min (52 : Int).toNat IntKind.u64.bits) = ((4503599627370496 * y : Nat) : Int) := by
    rw [show min (52 : Int).toNat IntKind.u64.bits = 52 by decide, show (2 : Int) ^ 52 = 4503599627370496 by decide]; omega
  rw [e, wrap_u64_nat _ (by omega)]
theorem ldexp_call {n : Nat} (hn : 0 < n) (b : Nat) (hb : b < 18446744073709551616) (k : Int) (hk : -100 ≤ k ∧ k ≤ 100) (h : b % 9223372036854775808 = 0 ∨ (b % 9223372036854775808 ≠ 0 ∧ 923 ≤ bP b ∧ bP b ≤ 1122)) {Q : PV → Nat → List Nat → Prop} (hQ : Q (.float .f64 (shB k b)) n []) : PCall Tryd.prog 99 [.float .f64 b, .int .i64 k] n Q := by
  refine of99 hn ?_
  rcases h with h | ⟨h0, hp⟩
  · have h1 : shB k b = b := by unfold shB; rw [if_pos h]
    rw [h1] at hQ
    have e := ord_zero hb (by omega) 90
    rw [decide_eq_true h] at e
    simpa (disch := omega) [-binPV_eqlf, c99, e] using hQ
  · obtain ⟨k1, k2, k3, k4⟩ := shB_at hb h0 hp hk
    have hbp := b_parts hb
    have hbf := bF_lt b
    have hm1 : b % 9223372036854775808 < 9218868437227405312 := by unfold bP at hp; omega
    have hm2 : 4503599627370496 ≤ b % 9223372036854775808 := by unfold bP at hp; omega
    have e := ord_zero hb (by omega) 90
    rw [decide_eq_false h0] at e
    simp (disch := omega) [-binPV_eqlf, c99, e]
    refine CallK.of (by simp) (IsInf_call hn b hb hm1 ?_)
    simp (disch := omega) [-binPV_eqlf, e]
    refine CallK.of (by simp) (IsNaN_call hn b hb hm1 ?_)
    simp (disch := omega) [-binPV_eqlf, e]
    refine CallK.of (by simp) (normalize_call hn b hb hm1 hm2 ?_)
    obtain ⟨p, hpp⟩ : ∃ p, p = bP b := ⟨_, rfl⟩
    obtain ⟨q, hq⟩ : ∃ q, q = b / 4503599627370496 := ⟨_, rfl⟩
    have hqp : p = q % 2048 := by rw [hpp, hq]; rfl
    have hql : q < 4096 := by omega
    rw [← hpp] at hp k3
    have f1 : binPV Tryd.prog .shr 35 (.int .u64 (b : Int)) (.int .u64 52) = some (.int .u64 (q : Int)) := by
      have := shr_nat_lit (P := Tryd.prog) (t := 35) (k := .u64) (k' := .u64) (a := b) (n := 52) (by decide)
      rw [hq]; exact this
    have f2 : binPV Tryd.prog .and 3 (.int .i64 (q : Int)) (.int .i64 2047) = some (.int .i64 (p : Int)) := by
      have := and_i64_lit (P := Tryd.prog) (t := 3) (a := q) (n := 2047) (by omega) (by decide)
      rw [show q &&& 2047 = p from (and_mask q 11).trans hqp.symm] at this
      exact this
    obtain ⟨g, hg⟩ : ∃ g : Nat, g = (if bN b then 9223372036854775808 else 0) + bF b := ⟨_, rfl⟩
    have f3 : binPV Tryd.prog .andNot 35 (.int .u64 (b : Int)) (.int .u64 9218868437227405312) = some (.int .u64 (g : Int)) := andNot_u64 (b := 9218868437227405312) hb (by omega) (by rw [hg]; exact and_signf hb)
    obtain ⟨y, hy⟩ : ∃ y : Nat, (y : Int) = p + k := ⟨((p : Int) + k).toNat, by omega⟩
    obtain ⟨z, hz⟩ : ∃ z : Nat, z = 4503599627370496 * y := ⟨_, rfl⟩
    have f4 : binPV Tryd.prog .shl 35 (.int .u64 (y : Int)) (.int .u64 52) = some (.int .u64 (z : Int)) := by
      rw [hz]; exact shl52 (by omega)
    have f5 : binPV Tryd.prog .or 35 (.int .u64 (g : Int)) (.int .u64 (z : Int)) = some (.int .u64 ((shB k b : Nat) : Int)) := by
      have hgl : g < 18446744073709551616 := by rw [hg]; split <;> omega
      have ho : g ||| z = shB k b := by
        rw [hg, hz, or_three (bN b) hbf (by omega)]
        have := b_parts k1
        rw [k2, k4] at this
        omega
      rw [binPV_or, bits_u64, ofInt_nat, ofInt_nat, BitVec.toNat_or, BitVec.toNat_ofNat, BitVec.toNat_ofNat, Nat.mod_eq_of_lt (by omega), Nat.mod_eq_of_lt (by omega), ho, wrap_u64_nat _ k1]
    have hx1 : (shB k b) % 9223372036854775808 < 9218868437227405312 := by
      have : bP (shB k b) ≤ 2046 := by omega
      unfold bP at this; omega
    have hx2 : 4503599627370496 ≤ (shB k b) % 9223372036854775808 := by
      have : 1 ≤ bP (shB k b) := by omega
      unfold bP at this; omega
    obtain ⟨w, hw⟩ : ∃ w, w = shB k b := ⟨_, rfl⟩
    rw [← hw] at f5 k1 hx1 hx2 hQ
    have f6 : binPV Tryd.prog .mul 90 (.float .f64 4607182418800017408) (.float .f64 w) = some (.float .f64 w) := by
      rw [binPV_mulf]
      have := mul_one (bN w) hx2 hx1
      rw [← sB_self w k1] at this
      rw [this]; rfl
    have a1 : ¬ (k + ((p : Int) - 1023) < -1075) := by omega
    have a2 : ¬ (1023 < k + ((p : Int) - 1023)) := by omega
    have a3 : ¬ (k + ((p : Int) - 1023) < -1022) := by omega
    have a4 : k + ((p : Int) - 1023) + 1023 = (y : Int) := by omega
    simpa (disch := omega) [-binPV_eqlf, -binPV_shr, -binPV_and, -binPV_andNot, -binPV_shl, -binPV_or, -binPV_mulf, e, f1, f2, f3, f4, f5, f6, a1, a2, a3, a4] using hQ
theorem Ldexp_call {n : Nat} (hn : 0 < n) (b : Nat) (hb : b < 18446744073709551616) (k : Int) (hk : -100 ≤ k ∧ k ≤ 100) (h : b % 9223372036854775808 = 0 ∨ (b % 9223372036854775808 ≠ 0 ∧ 923 ≤ bP b ∧ bP b ≤ 1122)) {Q : PV → Nat → List Nat → Prop} (hQ : Q (.float .f64 (shB k b)) n []) : PCall Tryd.prog 58 [.float .f64 b, .int .i64 k] n Q := by
  refine of58 hn ?_
  simp (disch := omega) [c58]
  refine CallK.of (by simp) (ldexp_call hn b hb k hk h ?_)
  simpa (disch := omega) using hQ
theorem Canon_call {n : Nat} (hn : 0 < n) (b : Nat) (hb : b < 18446744073709551616) (hf : finB b = true) {Q : PV → Nat → List Nat → Prop} (hQ : Q (.int .u64 (b : Int)) n []) : PCall Tryd.prog 96 [.int .u64 (b : Int)] n Q := by
  refine of96 hn ?_
  simp (disch := omega) [c96]
  refine CallK.of (by simp) (RefKindB_call hn b hb ?_)
  have hk : ((kindB b == 4) : Bool) = false := by
    unfold finB at hf; have hp : bP b < 2047 := by simpa using hf
    unfold kindB
    rw [if_neg (by omega)]
    split
    · rfl
    · split <;> rfl
  simpa (disch := omega) [hk] using hQ
theorem B_call {n : Nat} (hn : 0 < n) (b : Nat) (hb : b < 18446744073709551616) (hf : finB b = true) {Q : PV → Nat → List Nat → Prop} (hQ : Q (.int .u64 (b : Int)) n []) : PCall Tryd.prog 57 [.float .f64 b] n Q := by
  refine of57 hn ?_
  simp (disch := omega) [c57]
  refine CallK.of (by simp) (Canon_call hn b hb hf ?_)
  simpa (disch := omega) using hQ
theorem ShiftF_call {n : Nat} (hn : 0 < n) (b : Nat) (hb : b < 18446744073709551616) (k : Int) (hk : -100 ≤ k ∧ k ≤ 100) (ht : tameB 100 b = true) {Q : PV → Nat → List Nat → Prop} (hQ : Q (.int .u64 ((shB k b : Nat) : Int)) n []) : PCall Tryd.prog 24 [.int .u64 (b : Int), .int .i64 k] n Q := by
  obtain ⟨k1, k2⟩ := fin_sh hb ht hk
  refine of24 hn ?_
  simp (disch := omega) [c24]
  refine CallK.of (by simp) (F_call hn b ?_)
  simp (disch := omega) []
  refine CallK.of (by simp) (Ldexp_call hn b hb k hk (tame_bP hb ht) ?_)
  simp (disch := omega) []
  refine CallK.of (by simp) (B_call hn (shB k b) k1 k2 ?_)
  simpa (disch := omega) using hQ
theorem Copy_call {n : Nat} (hn : 0 < n) (r c : Int) (i : Sid) (l : List Nat) (hl : l.length < 1000000) {Q : PV → Nat → List Nat → Prop}
    (hQ : ∀ (o : Sid) (n' : Nat), n ≤ o.f → o.f < n' → Q (Mx r c o l) n' []) : PCall Tryd.prog 23 [Mx r c i l] n Q := by
  refine of23 hn ?_
  simp (disch := omega) [c23]
  rw [AppK_gen (by omega)]
  refine ⟨by simp; omega, .inl rfl, by simp, ?_⟩
  have := hQ ⟨n, n + 1, 0⟩ (n + 2) (Nat.le_refl _) (by show n < n + 2; omega)
  simpa (disch := omega) [c23] using ⟨by omega, this⟩
theorem pvupd_btsV (o : Sid) (j : Nat) (l : List Nat) (x : Nat) : PV.upd o 1 j 0 [.int .u64 (x : Int)] (.sl o 1 (bts l)) = .sl o 1 (bts (l.set j x)) := pvupd_bts o.f o.g o.off j l x
theorem pvupd_bts_other {o i : Sid} (hi : ¬ i.f = o.f) (z j c : Nat) (l : List Nat) (vs : List PV) : PV.upd o z j c vs (.sl i 1 (bts l)) = .sl i 1 (bts l) := by
  have : ¬ (i = o ∧ 1 = z) := fun e => hi (by rw [e.1])
  simp [PV.upd, this, PV.poison, hi, poisonL_bts]
end Go.Proofs.YtphndngifjgeoaaDoor
