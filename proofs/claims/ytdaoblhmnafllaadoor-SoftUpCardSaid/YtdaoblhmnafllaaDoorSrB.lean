/- The document's rounding, by value: numbers with one power; plain laws. -/
import Derived.Test.YtdaoblhmnafllaaDoorSrZ
set_option linter.unusedVariables false
set_option linter.unusedSimpArgs false
set_option maxHeartbeats 2000000
set_option maxRecDepth 20000
namespace Go.Proofs.YtdaoblhmnafllaaDoor
open Go.Proofs

theorem cmpZ_dyM (z : Int) : cmpZ (dyM z) = cmpZ z := by
  by_cases h : z = 0
  · subst h; rfl
  · obtain ⟨h1, h2, _⟩ := dyM_back h
    have hp := two_pow_pos' (tz z.natAbs)
    rcases Int.lt_or_gt_of_ne h1 with h3 | h3
    · have : z < 0 := by rw [h2]; exact Int.mul_neg_of_neg_of_pos h3 hp
      have := cmpZ_cases z; have := cmpZ_cases (dyM z); omega
    · have : 0 < z := by rw [h2]; exact Int.mul_pos h3 hp
      have := cmpZ_cases z; have := cmpZ_cases (dyM z); omega
theorem dyE_range {v L : Int} {k : Nat} (hv : sz v k) (hL : -16384 ≤ L ∧ L + 32 * k ≤ 16384) : -16384 ≤ dyE v L ∧ dyE v L ≤ 16384 := by
  by_cases h : v = 0
  · subst h; simp [dyE]
  · have := dyE_le (L := L) h hv
    omega
theorem SubNV_call {n : Nat} (hn : 0 < n) {v w L : Int} {k : Nat} (ia ib : Sid) (hia : ia.f < n) (hib : ib.f < n) (hv : sz v k) (hw : sz w k) (hk : k ≤ 255) (hL : -16384 ≤ L ∧ L + 32 * k ≤ 16384) {Q : PV → Nat → List Nat → Prop}
    (hQ : ∀ (i' : Sid) (n' : Nat), n ≤ n' → i'.f < n' → Q (NV L (v - w) i') n' []) : PCall Tryd.prog 56 [NV L v ia, NV L w ib] n Q := by
  obtain ⟨a1, _, _, _⟩ := low_V (L := L) hv hw hk
  have hwn : sz (-w) k := by unfold sz at *; rw [Int.natAbs_neg]; exact hw
  obtain ⟨_, b2, b3, _⟩ := low_V (L := L) hv hwn hk
  rw [dyM_neg, dyE_neg, ← Int.sub_eq_add_neg] at b2 b3
  rw [lowE_neg] at b3
  refine RefSubD2_call hn (dyM v) (dyM w) (dyE v L) (dyE w L) ia ib hia hib ((sz_dyM hv).mono hk) ((sz_dyM hw).mono hk) (fun h => dyE_zero h) (fun h => dyE_zero h) (dyE_range hv hL) (dyE_range hw hL) a1 fun i' n' g b => ?_
  have := hQ i' n' g b
  simp only [NV, ← b2, ← b3] at this
  exact this
theorem CompareNV_call {n : Nat} (hn : 0 < n) {v w L : Int} {k : Nat} (ia ib : Sid) (hia : ia.f < n) (hib : ib.f < n) (hv : sz v k) (hw : sz w k) (hk : k ≤ 255) (hL : -16384 ≤ L ∧ L + 32 * k ≤ 16384) {Q : PV → Nat → List Nat → Prop}
    (hQ : ∀ (n' : Nat), n ≤ n' → Q (.int .i64 (cmpZ (v - w))) n' []) : PCall Tryd.prog 25 [NV L v ia, NV L w ib] n Q := by
  have hwn : sz (-w) k := by unfold sz at *; rw [Int.natAbs_neg]; exact hw
  obtain ⟨_, b2, b3, _⟩ := low_V (L := L) hv hwn hk
  rw [dyM_neg, dyE_neg, ← Int.sub_eq_add_neg] at b2
  refine RefCompareD_call hn (dyM v) (dyM w) (dyE v L) (dyE w L) ia ib hia hib ((sz_dyM hv).mono hk) ((sz_dyM hw).mono hk) (fun h => dyE_zero h) (fun h => dyE_zero h) (dyE_range hv hL) (dyE_range hw hL) fun n' g => ?_
  rw [← ordD_diff (fun h => dyE_zero h) (fun h => dyE_zero h), ← cmpZ_dyM, b2, cmpZ_dyM]
  exact hQ n' g
theorem far_low {M L : Nat} {E : Int} (hL : bitsL M L) (h : L + E < -1080) : spB M E L = 0 ∧ spX M E L = false := by
  have hM0 : 0 < M := by have := hL.2; have : 0 < 2 ^ L := Nat.pos_of_ne_zero (by simp); omega
  have hp : pexp L E = -1074 := by unfold pexp; rw [if_pos (by omega)]
  obtain ⟨t, ht⟩ : ∃ t : Nat, pexp L E - E = t := ⟨(pexp L E - E).toNat, by omega⟩
  have hT : 2 ^ (L + 1) ≤ 2 ^ t := Nat.pow_le_pow_right (by omega) (by omega)
  have h1 := hL.1
  rw [Nat.pow_succ] at hT
  have hm : M % 2 ^ t = M := Nat.mod_eq_of_lt (by omega)
  have hdv : M / 2 ^ t = 0 := Nat.div_eq_of_lt (by omega)
  constructor
  · unfold spB
    rw [ht, rnd, if_neg (by omega), Int.toNat_natCast, hp, rq, hm, hdv, if_neg (by omega)]
    decide
  · unfold spX
    rw [ht, Int.toNat_natCast, hp, hm]
    simp only [decide_eq_false_iff_not]
    omega
theorem far_high {M L : Nat} {E : Int} (h : 1030 < L + E) : spB M E L = 9218868437227405312 := by
  have hp : pexp L E = L + E - 53 := by unfold pexp; rw [if_neg (by omega)]
  unfold spB packR
  rw [hp]
  have : 2048 ≤ ((L : Int) + E - 53 + 1074).toNat := by omega
  have := Nat.mul_le_mul_right 4503599627370496 this
  omega
theorem rnd_range {M L : Nat} {E : Int} (hL : bitsL M L) : rnd M (pexp L E - E) ≤ 9007199254740992 ∧ (4503599627370496 ≤ rnd M (pexp L E - E) ∨ pexp L E = -1074) := by
  have hp1 : (L : Int) + E - 53 ≤ pexp L E := by unfold pexp; split <;> omega
  have hp2 : pexp L E = L + E - 53 ∨ pexp L E = -1074 := by unfold pexp; split; exact .inr rfl; exact .inl rfl
  obtain ⟨p, hp⟩ : ∃ p, p = pexp L E := ⟨_, rfl⟩
  rw [← hp] at hp1 hp2 ⊢
  have h1 := hL.1
  have h2 := hL.2
  unfold rnd
  by_cases ht : p - E ≤ 0
  · rw [if_pos ht]
    obtain ⟨k, hk⟩ : ∃ k : Nat, k = (-(p - E)).toNat := ⟨_, rfl⟩
    rw [← hk]
    have hlt : M * 2 ^ k < 2 ^ (L + k) := by rw [Nat.pow_add]; exact Nat.mul_lt_mul_of_pos_right h1 (Nat.pos_of_ne_zero (by simp))
    have hle : 2 ^ (L + k) ≤ 2 ^ 53 := Nat.pow_le_pow_right (by omega) (by omega)
    refine ⟨by omega, ?_⟩
    rcases hp2 with h | h
    · left
      have he : L + k = 53 := by omega
      have : 2 ^ (L + k) ≤ 2 * (M * 2 ^ k) := by rw [Nat.pow_add, ← Nat.mul_assoc]; exact Nat.mul_le_mul_right _ h2
      rw [he] at this; omega
    · exact .inr h
  · rw [if_neg ht]
    obtain ⟨t, hte⟩ : ∃ t : Nat, t = (p - E).toNat := ⟨_, rfl⟩
    rw [← hte]
    have hP : 0 < 2 ^ t := Nat.pos_of_ne_zero (by simp)
    have hlt : M / 2 ^ t < 9007199254740992 := by
      rw [Nat.div_lt_iff_lt_mul hP]
      have : 2 ^ L ≤ 2 ^ (53 + t) := Nat.pow_le_pow_right (by omega) (by omega)
      rw [Nat.pow_add] at this
      omega
    unfold rq
    refine ⟨by split <;> omega, ?_⟩
    rcases hp2 with h | h
    · left
      have : 4503599627370496 ≤ M / 2 ^ t := by
        rw [Nat.le_div_iff_mul_le hP]
        have he : L = 53 + t := by omega
        rw [he, Nat.pow_add] at h2
        omega
      split <;> omega
    · exact .inr h
end Go.Proofs.YtdaoblhmnafllaaDoor
