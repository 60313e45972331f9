/- What the functions of layer 1 do, by value: shifts. -/
import Derived.Test.YtdaoblhmnafllaaDoorCtM
set_option linter.unusedVariables false
set_option linter.unusedSimpArgs false
namespace Go.Proofs.YtdaoblhmnafllaaDoor
open Go.Proofs

@[simp] theorem sliceP_from_u32 (i : Sid) (l : List Nat) (lo : Nat) (h : lo ≤ l.length) : sliceP 1 i (u32s l) (lo : Int) (l.length : Int) = some (.sl ⟨i.f, i.g, i.off + lo⟩ 1 (u32s (l.drop lo))) := by
  rw [sliceP_nat_u32 _ _ _ _ ⟨h, Nat.le_refl _⟩, List.take_of_length_le (by simp)]
@[simp] theorem sliceP_one_u32 (i : Sid) (l : List Nat) (h : 1 ≤ l.length) : sliceP 1 i (u32s l) 1 (l.length : Int) = some (.sl ⟨i.f, i.g, i.off + 1⟩ 1 (u32s (l.drop 1))) := sliceP_from_u32 i l 1 h

/-- A number times a power of two, towards 0. -/
def shZ (x n : Int) : Int := if 0 ≤ n then x * 2 ^ n.toNat else x.tdiv (2 ^ (-n).toNat)
theorem natAbs_two_pow (k : Nat) : ((2 : Int) ^ k).natAbs = 2 ^ k := by rw [Int.natAbs_pow]; rfl
theorem shZ_abs (x n : Int) : (shZ x n).natAbs = if 0 ≤ n then x.natAbs * 2 ^ n.toNat else x.natAbs / 2 ^ (-n).toNat := by
  unfold shZ
  split
  · rw [Int.natAbs_mul, natAbs_two_pow]
  · rw [Int.natAbs_tdiv, natAbs_two_pow]; rfl
theorem two_pow_pos' (k : Nat) : (0 : Int) < 2 ^ k := Int.pow_pos (by omega)
theorem shZ_nonneg {x n : Int} (h : 0 ≤ x) : 0 ≤ shZ x n := by
  have := two_pow_pos' n.toNat
  have := two_pow_pos' (-n).toNat
  unfold shZ; split
  · exact Int.mul_nonneg h (by omega)
  · exact Int.tdiv_nonneg h (by omega)
theorem shZ_negate (x n : Int) : shZ (-x) n = - shZ x n := by
  unfold shZ; split
  · rw [Int.neg_mul]
  · rw [Int.neg_tdiv]
theorem shZ_sign (x n : Int) (h : (shZ x n).natAbs ≠ 0) : decide (x < 0) = decide (shZ x n < 0) := by
  by_cases hx : x < 0
  · have := shZ_nonneg (x := -x) (n := n) (by omega)
    rw [shZ_negate] at this
    simp [hx]; omega
  · have := shZ_nonneg (x := x) (n := n) (by omega)
    simp [hx]; omega
theorem shZ_zero (n : Int) : shZ 0 n = 0 := by
  have := shZ_abs 0 n
  have h : (shZ 0 n).natAbs = 0 := by rw [this]; split <;> simp
  omega
theorem shZ_none (x : Int) : shZ x 0 = x := by simp [shZ]

theorem shl_step {v p c w y P s lo hi : Nat} (e : lo + 4294967296 * hi = s + c) (hs : s = y * P) (h : v + p * c = w) : v + p * lo + p * 4294967296 * hi = w + p * (y * P) := by
  subst hs
  exact mul_step e h
theorem shr_step {x r0 R' P T : Nat} (hPT : P * T = 4294967296) (hx : x < 4294967296) (hP : 0 < P) : (x + 4294967296 * (r0 + 4294967296 * R')) / P = ((x + 4294967296 * r0) / P) % 4294967296 + 4294967296 * ((r0 + 4294967296 * R') / P) := by
  have e1 : ∀ z, (x + 4294967296 * z) / P = x / P + T * z := fun z => by
    rw [← hPT, Nat.mul_assoc, Nat.add_mul_div_left _ _ hP]
  have e2 : ∀ z, T * z = 4294967296 * (z / P) + T * (z % P) := fun z => by
    have := Nat.div_add_mod z P
    calc T * z = T * (P * (z / P) + z % P) := by rw [this]
      _ = 4294967296 * (z / P) + T * (z % P) := by rw [Nat.mul_add, ← Nat.mul_assoc, Nat.mul_comm T P, hPT]
  have e3 : (r0 + 4294967296 * R') % P = r0 % P := by
    rw [← hPT, Nat.mul_assoc, Nat.add_mul_mod_self_left]
  have hxT : x / P < T := Nat.div_lt_of_lt_mul (by rw [hPT]; exact hx)
  have hr : r0 % P < P := Nat.mod_lt _ hP
  have hle : T * (r0 % P) + T ≤ 4294967296 := by
    have : T * (r0 % P + 1) ≤ T * P := Nat.mul_le_mul_left T hr
    rw [Nat.mul_comm T P, hPT, Nat.mul_add] at this
    omega
  rw [e1, e1, e2 (r0 + 4294967296 * R'), e2 r0, e3]
  generalize x / P = e at *
  generalize r0 / P = e' at *
  generalize (r0 + 4294967296 * R') / P = e'' at *
  generalize T * (r0 % P) = f at *
  omega

theorem pow_split (q r : Nat) : 4294967296 ^ q * 2 ^ r = 2 ^ (32 * q + r) := by
  rw [Nat.pow_add, Nat.pow_mul]

theorem getD_drop (a : List Nat) (i : Nat) : val (a.drop i) = a.getD i 0 + 4294967296 * val (a.drop (i + 1)) := by
  by_cases h : i < a.length
  · rw [List.drop_eq_getElem_cons h, val_cons]; simp [List.getD, h]
  · rw [List.drop_eq_nil_of_le (by omega), List.drop_eq_nil_of_le (by omega)]; simp [List.getD, h]
def shBs (neg : Bool) (i : Sid) (l : List Nat) : List (List PV) := [[.bool neg, .sl i 1 (u32s l)], [.bool false, .sl ⟨0, 0, 0⟩ 1 []]]
def shlI (neg : Bool) (ia : Sid) (a : List Nat) (n m q r : Nat) (k : Nat) (s : St) : Prop :=
  ∃ (i c g nx : Nat) (out : List Nat), i + k = a.length ∧ At s 131 (shBs neg ia a) nx [(1, .int .i64 m), (2, .box 0 0), (4, .box 1 0), (6, .sl ⟨n, g, 0⟩ 1 (u32s out)), (7, .int .u64 c), (44, .sl ia 1 (u32s a)), (45, .int .i64 a.length), (46, .int .i64 i)] ∧ tipOf s.tips g n = some (q + i) ∧ 0 < g ∧ g < nx ∧ n < nx ∧ out.length = q + i ∧ Lim out ∧ c < 2 ^ r ∧ val out + 4294967296 ^ (q + i) * c = 4294967296 ^ q * (val (a.take i) * 2 ^ r)
def shrI (neg : Bool) (ia il : Sid) (a l : List Nat) (n m r : Nat) (k : Nat) (s : St) : Prop :=
  ∃ (i g nx : Nat) (out : List Nat), i + k = l.length ∧ At s 131 (shBs neg ia a) nx [(1, .int .i64 m), (2, .box 0 0), (4, .box 1 0), (11, .sl il 1 (u32s l)), (12, .sl ⟨n, g, 0⟩ 1 (u32s out)), (93, .int .i64 l.length), (94, .int .i64 i)] ∧ tipOf s.tips g n = some i ∧ 0 < g ∧ g < nx ∧ n < nx ∧ out.length = i ∧ Lim out ∧ val out + 4294967296 ^ i * (val (l.drop i) / 2 ^ r) = val l / 2 ^ r

set_option maxHeartbeats 2000000 in
theorem Shift_call {n : Nat} (hn : 0 < n) (na : Bool) (ia : Sid) (a : List Nat) (ha : a.length < 35184372088800) (la : Lim a) (b : Int) (hb : -9223372036854775808 ≤ b ∧ b < 9223372036854775808) {Q : PV → Nat → List Nat → Prop}
    (h0 : rightW na a = false → Q (.tup [W false ⟨0, 0, 0⟩ [], .int .i64 1]) n [])
    (h1 : rightW na a = true → (b < -16384 ∨ 16384 < b) → Q (.tup [W false ⟨0, 0, 0⟩ [], .int .i64 2]) n [])
    (hQ : rightW na a = true → (-16384 ≤ b ∧ b ≤ 16384) → ∀ (i : Sid) (n' : Nat), n ≤ n' → newSid n n' i → Q (.tup [W (ansN (shZ (numW na a) b)) i (ansL (shZ (numW na a) b)), .int .i64 (ansE (shZ (numW na a) b))]) n' []) : PCall Tryd.prog 47 [W na ia a, .int .i64 b] n Q := by
  refine of47 hn ?_
  simp (disch := omega) [c47]
  refine CallK.of (by simp) (Check_call hn na ia a (by omega) ?_)
  by_cases hr : rightW na a = true
  · by_cases hb1 : b < -16384
    · have := h1 hr (.inl hb1)
      simp only [W] at this
      simpa (disch := omega) [hr, hb1] using this
    by_cases hb2 : 16384 < b
    · have := h1 hr (.inr hb2)
      simp only [W] at this
      simpa (disch := omega) [hr, hb1, hb2] using this
    replace hQ := hQ hr (by omega)
    clear h0 h1
    have hra := (rightW_top hr).2.1
    generalize hz : shZ (numW na a) b = z at hQ
    by_cases ha0 : a = []
    · have := hQ ⟨0, 0, 0⟩ n (by omega) (.inl rfl)
      subst ha0
      have hz0 : z = 0 := by rw [← hz]; simp [numW, shZ_zero]
      subst hz0
      simp [W, ansN, ansL, ansE, big, dig_zero] at this
      simpa (disch := omega) [hr, hb1, hb2] using this
    have hap : 0 < a.length := List.length_pos_iff.2 ha0
    have hza := shZ_abs (numW na a) b
    rw [hz, numW_abs] at hza
    have hzs : z.natAbs ≠ 0 → na = decide (z < 0) := by
      intro h
      rw [← hz] at h ⊢
      rw [← shZ_sign _ _ h]
      obtain ⟨x, hx1, hx2⟩ := right_Z hr la
      rw [hx1, hx2, numW_dig]
    by_cases hb3 : 0 ≤ b
    · obtain ⟨m, rfl⟩ : ∃ m : Nat, b = m := ⟨b.toNat, by omega⟩
      rw [if_pos hb3] at hza
      simp only [Int.toNat_natCast] at hza
      obtain ⟨q, hq⟩ : ∃ q, q = m / 32 := ⟨_, rfl⟩
      obtain ⟨r, hr0⟩ : ∃ r, r = m % 32 := ⟨_, rfl⟩
      have hr32 : r < 32 := by omega
      have hmq : m = 32 * q + r := by omega
      have q1 : (m : Int).tdiv 32 = (q : Int) := by rw [Int.tdiv_eq_ediv_of_nonneg (by omega)]; omega
      have q2 : (m : Int) / 32 = (q : Int) := by omega
      have r1 : (m : Int).tmod 32 = (r : Int) := by rw [Int.tmod_eq_emod_of_nonneg (by omega)]; omega
      have r2 : (m : Int) % 32 = (r : Int) := by omega
      have hPle : 2 ^ r ≤ 2147483648 := Nat.pow_le_pow_right (n := 2) (by omega) (show r ≤ 31 by omega)
      have hPpos : 0 < 2 ^ r := Nat.pos_of_ne_zero (by simp)
      simp (disch := omega) [hr, hb1, hb2, ha0, q1, q2]
      refine ⟨by omega, by omega, ?_⟩
      refine GO_loopN (shlI na ia a n m q r) a.length ⟨0, 0, n, n + 1, List.replicate q 0, by omega, by simp [At, shBs], by simp, by omega, by omega, by omega, by simp, Lim.replicate _, hPpos, by simp [val_replicate]⟩ ?_
      rintro k s ⟨i, c, g, nx, out, hi, ⟨e1, e2, e3, e4, e5⟩, ht, hg, hgx, hnx, hol, lo, hc, hv⟩
      simp at e5
      obtain ⟨e5, e6, e7, e8, e9, e10, e11, e12⟩ := e5
      unfold shBs at e2
      by_cases hk : i < a.length
      · have hy := la.get hk
        obtain ⟨y, hy0⟩ : ∃ y, y = a[i] := ⟨_, rfl⟩
        obtain ⟨P, hP0⟩ : ∃ P, P = 2 ^ r := ⟨_, rfl⟩
        obtain ⟨w, hw0⟩ : ∃ w, w = y * P := ⟨_, rfl⟩
        have hwl : w ≤ 4294967295 * P := by rw [hw0]; exact Nat.mul_le_mul_right _ (by omega)
        rw [← hP0] at hPle hPpos hc
        obtain ⟨t, ht0⟩ : ∃ t, t = w + c := ⟨_, rfl⟩
        obtain ⟨l0, hl0⟩ : ∃ l0, l0 = t % 4294967296 := ⟨_, rfl⟩
        obtain ⟨d, hd0⟩ : ∃ d, d = t / 4294967296 := ⟨_, rfl⟩
        have hshl : binPV Tryd.prog .shl 22 (.int .u64 (y : Int)) (.int .i64 (r : Int)) = some (.int .u64 (w : Int)) := by
          rw [binPV_shl, if_neg (by omega), bits_u64, Int.toNat_natCast, Nat.min_eq_left (by omega), show (y : Int) * 2 ^ r = (w : Int) by rw [hw0, hP0]; simp, wrap_u64_nat _ (by omega)]
        have hor := binPV_or_high (P := Tryd.prog) (t := 22) (a := c) (b := w) (k := r) (c := t) (d := y) (by omega) (by rw [hw0, hP0, Nat.mul_comm]) ht0 (by omega)
        have hlo : IntKind.u32.wrap (t : Int) = (l0 : Int) := by rw [wrap_u32_eq]; omega
        have hhi : (t : Int) / 4294967296 = (d : Int) := by omega
        simp (disch := omega) [-binPV_or, -binPV_shl, -wrap_u32_nat, -wrap_u32_at, c47L0, e1, e2, e3, e4, e5, e6, e7, e8, e9, e10, e11, e12, hk, ← hy0, r1, r2, hshl, hor, hlo, hhi, ht, hol]
        refine ⟨by omega, k - 1, by omega, i + 1, d, nx + 1, nx + 2, out ++ [l0], by omega, ?_, ?_, by omega, by omega, by omega, by simp [hol]; omega, lo.append (.one (by omega)), by omega, ?_⟩
        · simp [At, shBs, e1, e2, e3, e4, e5, e6, e7, e8, e9, e10, e11, e12]
        · simp [e3]; omega
        · have hst : l0 + 4294967296 * d = w + c := by omega
          have := shl_step hst hw0 hv
          rw [val_append, val_take_succ, hol, ← Nat.add_assoc q i 1, Nat.pow_succ, Nat.add_mul, Nat.mul_add]
          simp only [List.getD, List.getElem?_eq_getElem hk, Option.getD_some, ← hy0, ← hP0, val_cons, val_nil, Nat.mul_zero, Nat.add_zero]
          rw [← hP0] at this
          rw [this, Nat.pow_add, Nat.mul_assoc, Nat.mul_assoc]
      · have hia2 : i = a.length := by omega
        subst hia2
        have hc32 : c < 4294967296 := by omega
        have hwc : IntKind.u32.wrap (c : Int) = (c : Int) := by rw [wrap_u32_eq]; omega
        rw [List.take_of_length_le (by omega)] at hv
        simp (disch := omega) [-wrap_u32_nat, -wrap_u32_at, c47L0, c47R0, e1, e2, e3, e4, e5, e6, e7, e8, e9, e10, e11, e12, hk, hwc, ht, hol]
        refine ⟨by omega, ?_⟩
        have hlo2 : Lim (out ++ [c]) := lo.append (.one hc32)
        have hvv : val (out ++ [c]) = z.natAbs := by
          rw [val_append, hol, val_cons, val_nil, Nat.mul_zero, Nat.add_zero, hv, hza, hmq, ← pow_split, Nat.mul_left_comm]
        refine CallK.of (by simp) (of_call' (by omega) na _ (out ++ [c]) (by simp; omega) hlo2 z hvv (by rw [hvv]; exact hzs) fun i' hi' => ?_)
        have := hQ i' (nx + 2) (by omega) (by rcases hi' with e | e; exact .inl e; subst e; exact .inr ⟨by simp, by simp; omega⟩)
        simp only [W] at this
        simpa (disch := omega) [e1, e2, e3, e4, e5, e6, e7, e8, e9, e10, e11, e12] using ⟨by omega, this⟩
    · obtain ⟨m, hm⟩ : ∃ m : Nat, b = -(m : Int) := ⟨(-b).toNat, by omega⟩
      subst hm
      rw [if_neg hb3, Int.neg_neg, Int.toNat_natCast] at hza
      obtain ⟨q, hq⟩ : ∃ q, q = m / 32 := ⟨_, rfl⟩
      obtain ⟨r, hr0⟩ : ∃ r, r = m % 32 := ⟨_, rfl⟩
      have hr32 : r < 32 := by omega
      have hmq : m = 32 * q + r := by omega
      have q1 : (m : Int).tdiv 32 = (q : Int) := by rw [Int.tdiv_eq_ediv_of_nonneg (by omega)]; omega
      have q2 : (m : Int) / 32 = (q : Int) := by omega
      have r1 : (m : Int).tmod 32 = (r : Int) := by rw [Int.tmod_eq_emod_of_nonneg (by omega)]; omega
      have r2 : (m : Int) % 32 = (r : Int) := by omega
      have hwm : IntKind.i64.wrap (0 - -(m : Int)) = (m : Int) := wrap_i64_is (by omega) (by omega)
      have hwm2 : IntKind.i64.wrap (m : Int) = (m : Int) := wrap_i64_is (by omega) (by omega)
      have hm0 : ¬ m = 0 := by omega
      have hPpos : 0 < 2 ^ r := Nat.pos_of_ne_zero (by simp)
      have hvq : val a / 4294967296 ^ q = val (a.drop q) := by
        have h2 := val_split a q
        have h3 := val_lt (la.take q)
        have h4 : 4294967296 ^ (a.take q).length ≤ 4294967296 ^ q := Nat.pow_le_pow_right (by omega) (by simp; omega)
        rw [h2, Nat.add_mul_div_left _ _ (Nat.pos_of_ne_zero (by simp)), Nat.div_eq_of_lt (by omega), Nat.zero_add]
      have hzq : z.natAbs = val (a.drop q) / 2 ^ r := by rw [hza, hmq, ← pow_split, ← Nat.div_div_eq_div_mul, hvq]
      by_cases hql : a.length ≤ q
      · have := hQ ⟨0, 0, 0⟩ n (by omega) (.inl rfl)
        have hz0 : z = 0 := by
          rw [List.drop_eq_nil_of_le hql] at hzq
          simp at hzq; exact hzq
        subst hz0
        simp [W, ansN, ansL, ansE, big, dig_zero] at this
        simpa (disch := omega) [c47R2, hr, hb1, hb2, hb3, ha0, hm0, hwm, hwm2, q1, q2, hql] using this
      · obtain ⟨l, hl⟩ : ∃ l, l = a.drop q := ⟨_, rfl⟩
        have hll : l.length = a.length - q := by rw [hl]; simp
        have llim : Lim l := hl ▸ la.drop q
        rw [← hl] at hzq
        have htk : List.take (a.length - q) l = l := List.take_of_length_le (by omega)
        simp (disch := omega) [c47R2, hr, hb1, hb2, hb3, ha0, hm0, hwm, hwm2, q1, q2, hql, ← hl, htk]
        refine ⟨by omega, ?_⟩
        refine GO_loopN (shrI na ia ⟨ia.f, ia.g, ia.off + q⟩ a l n m r) l.length ⟨0, n, n + 1, [], by omega, by simp [At, shBs, hll], by simp, by omega, by omega, by omega, by simp, .nil, by simp⟩ ?_
        rintro k s ⟨i, g, nx, out, hi, ⟨e1, e2, e3, e4, e5⟩, ht, hg, hgx, hnx, hol, lo, hv⟩
        simp at e5
        obtain ⟨e5, e6, e7, e8, e9, e10, e11⟩ := e5
        unfold shBs at e2
        by_cases hk : i < l.length
        · have hx := llim.getD i
          have hy := llim.getD (i + 1)
          have hd := getD_drop l i
          have hR := getD_drop l (i + 1)
          obtain ⟨x, hx0⟩ : ∃ x, x = l[i] := ⟨_, rfl⟩
          have hxx : l.getD i 0 = x := by simp [List.getD, hk, hx0]
          rw [hxx] at hx hd
          obtain ⟨y, hy0⟩ : ∃ y, y = l.getD (i + 1) 0 := ⟨_, rfl⟩
          rw [← hy0] at hy hR
          obtain ⟨t, ht0⟩ : ∃ t, t = x + 4294967296 * y := ⟨_, rfl⟩
          have hto := ht0.symm
          obtain ⟨w, hw0⟩ : ∃ w, w = t / 2 ^ r := ⟨_, rfl⟩
          have hwl : w ≤ t := hw0 ▸ Nat.div_le_self _ _
          obtain ⟨o, ho0⟩ : ∃ o, o = t / 2 ^ r % 4294967296 := ⟨_, rfl⟩
          have hshr : binPV Tryd.prog .shr 22 (.int .u64 (t : Int)) (.int .i64 (r : Int)) = some (.int .u64 (w : Int)) := by
            rw [binPV_shr, if_neg (by omega), bits_u64, Int.toNat_natCast, Nat.min_eq_left (by omega), hw0]
            have : ((2 : Int) ^ r) = ((2 ^ r : Nat) : Int) := by simp
            rw [this, Int.fdiv_eq_ediv_of_nonneg _ (by omega)]; rfl
          have hlo : IntKind.u32.wrap (w : Int) = (o : Int) := by rw [wrap_u32_eq]; omega
          by_cases hk1 : i + 1 < l.length
          · have hyy : y = l[i + 1] := by simp [hy0, List.getD, hk1]
            have hk1i : (i : Int) + 1 < (l.length : Int) := by omega
            have hin : ((i : Int) + 1).toNat = i + 1 := by omega
            have hi0 : (0 : Int) ≤ (i : Int) + 1 := by omega
            obtain ⟨v, hv0⟩ : ∃ v, v = y * 4294967296 := ⟨_, rfl⟩
            have hsh : (y : Int) * 4294967296 = (v : Int) := by omega
            have hor := binPV_or_low (P := Tryd.prog) (t := 22) (a := x) (b := v) (k := 32) (c := t) (d := y) (by omega) (by omega) (by omega) (by omega)
            simp (disch := omega) [-binPV_or, -binPV_shr, -wrap_u32_nat, -wrap_u32_at, c47L1, e1, e2, e3, e4, e5, e6, e7, e8, e9, e10, e11, hk, hk1, hk1i, hin, hi0, ← hx0, ← hyy, r1, r2, hsh, hor, hshr, hlo, ht, hol]
            refine ⟨by omega, k - 1, by omega, i + 1, nx + 1, nx + 2, out ++ [o], by omega, ?_, ?_, by omega, by omega, by omega, by simp [hol], lo.append (.one (by omega)), ?_⟩
            · simp [At, shBs, e1, e2, e3, e4, e5, e6, e7, e8, e9, e10, e11]
            · simp [e3]
            · have hs := shr_step (x := x) (r0 := y) (R' := val (l.drop (i + 2))) (P := 2 ^ r) (T := 2 ^ (32 - r)) (by rw [← Nat.pow_add, show r + (32 - r) = 32 by omega]) (by omega) hPpos
              rw [hR] at hd
              rw [hd, hs, ← hR, hto] at hv
              rw [val_append, hol, val_cons, val_nil, Nat.mul_zero, Nat.add_zero, Nat.pow_succ, ← hv, ← ho0]
              rw [Nat.mul_add, Nat.mul_assoc, Nat.add_assoc]
          · have hyy : y = 0 := by simp [hy0, List.getD, hk1]
            have hk1i : ¬ (i : Int) + 1 < (l.length : Int) := by omega
            have htx : t = x := by omega
            subst htx
            simp (disch := omega) [-binPV_or, -binPV_shr, -wrap_u32_nat, -wrap_u32_at, c47L1, e1, e2, e3, e4, e5, e6, e7, e8, e9, e10, e11, hk, hk1, hk1i, ← hx0, r1, r2,  hshr, hlo, ht, hol]
            refine ⟨by omega, k - 1, by omega, i + 1, nx + 1, nx + 2, out ++ [o], by omega, ?_, ?_, by omega, by omega, by omega, by simp [hol], lo.append (.one (by omega)), ?_⟩
            · simp [At, shBs, e1, e2, e3, e4, e5, e6, e7, e8, e9, e10, e11]
            · simp [e3]
            · have hs := shr_step (x := t) (r0 := y) (R' := val (l.drop (i + 2))) (P := 2 ^ r) (T := 2 ^ (32 - r)) (by rw [← Nat.pow_add, show r + (32 - r) = 32 by omega]) (by omega) hPpos
              rw [hR] at hd
              rw [hd, hs, ← hR, hto] at hv
              rw [val_append, hol, val_cons, val_nil, Nat.mul_zero, Nat.add_zero, Nat.pow_succ, ← hv, ← ho0]
              rw [Nat.mul_add, Nat.mul_assoc, Nat.add_assoc]
        · have hia2 : i = l.length := by omega
          rw [List.drop_eq_nil_of_le (by omega)] at hv
          simp at hv
          simp (disch := omega) [c47L1, c47R1, e1, e2, e3, e4, e5, e6, e7, e8, e9, e10, e11, hk]
          refine CallK.of (by simp) (of_call' (by omega) na _ out (by omega) lo z (by omega) (by rw [hv, ← hzq]; exact hzs) fun i' hi' => ?_)
          have := hQ i' nx (by omega) (by rcases hi' with e | e; exact .inl e; subst e; exact .inr ⟨by simp, by simp; omega⟩)
          simp only [W] at this
          simpa (disch := omega) [e1, e2, e3, e4, e5, e6, e7, e8, e9, e10, e11] using ⟨by omega, this⟩
  · rw [Bool.not_eq_true] at hr
    have := h0 hr
    simp only [W] at this
    simpa [hr] using this
end Go.Proofs.YtdaoblhmnafllaaDoor
