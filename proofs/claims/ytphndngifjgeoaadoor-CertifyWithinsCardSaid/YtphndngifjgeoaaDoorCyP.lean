/- Numbers of one scale; is one small beside another: the plain law. -/
import Derived.Test.YtphndngifjgeoaaDoorCyG
set_option linter.unusedVariables false
set_option linter.unusedSimpArgs false
set_option maxRecDepth 20000
set_option maxHeartbeats 4000000
namespace Go.Proofs.YtphndngifjgeoaaDoor
open Go.Proofs
/-- 2 to the t, in units of 2 to the -17000. -/
@[irreducible] def pw (t : Int) : Int := 2 ^ (t + 17000).toNat
theorem pw_eq (t : Int) : pw t = 2 ^ (t + 17000).toNat := by unfold pw; rfl
theorem pw_pos (t : Int) : 0 < pw t := by rw [pw_eq]; exact two_pow_pos' _
theorem pw_add {t : Int} (k : Nat) (h : -17000 ≤ t) : pw (t + k) = pw t * 2 ^ k := by
  rw [pw_eq, pw_eq, show (t + k + 17000).toNat = (t + 17000).toNat + k by omega, Int.pow_add]
theorem pw_succ {t : Int} (h : -17000 ≤ t) : pw (t + 1) = 2 * pw t := by
  have := pw_add 1 h
  rw [show ((1 : Nat) : Int) = 1 from rfl] at this
  rw [this]; omega
theorem pw_succ2 {s t : Int} (h : -17000 ≤ t) (e : s = t + 1) : pw s = 2 * pw t := by rw [e]; exact pw_succ h
theorem pw_mono {s t : Int} (h : -17000 ≤ s) (h2 : s ≤ t) : pw s ≤ pw t := by
  obtain ⟨k, hk⟩ : ∃ k : Nat, t = s + k := ⟨(t - s).toNat, by omega⟩
  rw [hk, pw_add k h]
  have h1 := pw_pos s
  have h2 : (1 : Int) ≤ 2 ^ k := by have := two_pow_pos' k; omega
  calc pw s = pw s * 1 := by omega
    _ ≤ pw s * 2 ^ k := Int.mul_le_mul_of_nonneg_left h2 (by omega)
theorem lev_pw {x e E : Int} (hE : -17000 ≤ E) (he : x ≠ 0 → E ≤ e) : lev x e E * pw E = x * pw e := by
  unfold lev
  by_cases h : x = 0
  · rw [if_pos h, h]; omega
  · have he := he h
    rw [if_neg h]
    obtain ⟨k, hk⟩ : ∃ k : Nat, e = E + k := ⟨(e - E).toNat, by omega⟩
    rw [hk, pw_add k hE]
    unfold shZ
    rw [if_pos (by omega), show (E + k - E).toNat = k by omega, Int.mul_assoc, Int.mul_comm (2 ^ k)]
theorem cmpZ_mul {a p : Int} (hp : 0 < p) : cmpZ (a * p) = cmpZ a := by
  rcases cmpZ_cases a with ⟨h, h1⟩ | ⟨h, h1⟩ | ⟨h, h1⟩
  · have := Int.mul_neg_of_neg_of_pos h hp
    rw [h1]; unfold cmpZ; rw [if_pos this]
  · rw [h, Int.zero_mul]
  · have := Int.mul_pos h hp
    rw [h1]; unfold cmpZ; rw [if_neg (by omega), if_neg (by omega)]
theorem lowE_ge {x y e f : Int} (he : -17000 ≤ e) (hf : -17000 ≤ f) : -17000 ≤ lowE x y e f := by
  unfold lowE; split
  · exact hf
  · split
    · exact he
    · omega
theorem ord_pw {x y e f : Int} (h1 : x = 0 → e = 0) (h2 : y = 0 → f = 0) (he : -17000 ≤ e) (hf : -17000 ≤ f) : ordD x y e f = cmpZ (x * pw e - y * pw f) := by
  obtain ⟨q1, q2, q3⟩ := lowE_le h1 h2
  have hl := lowE_ge (x := x) (y := y) he hf
  rw [← ordD_diff h1 h2, sum_diff, ← lev_pw hl q1, ← lev_pw hl q2, ← Int.sub_mul, cmpZ_mul (pw_pos _)]
theorem sum_pw {x y e f : Int} (h1 : x = 0 → e = 0) (h2 : y = 0 → f = 0) (he : -17000 ≤ e) (hf : -17000 ≤ f) : sumZ x y e f * pw (lowE x y e f) = x * pw e + y * pw f := by
  obtain ⟨q1, q2, q3⟩ := lowE_le h1 h2
  have hl := lowE_ge (x := x) (y := y) he hf
  unfold sumZ
  rw [Int.add_mul, lev_pw hl q1, lev_pw hl q2]
theorem dy_pw {v L : Int} (h : -17000 ≤ L) : dyM v * pw (dyE v L) = v * pw L := by
  by_cases h0 : v = 0
  · subst h0; simp [dyM]
  · have := (dyM_back h0).2.1
    have e : dyE v L = L + (tz v.natAbs : Nat) := by unfold dyE; rw [if_neg h0]
    rw [e, pw_add _ h, Int.mul_comm (pw L), ← Int.mul_assoc, ← this]
theorem top_pw {x e : Int} (hx : 0 < x) (he : -17000 ≤ e) : x * pw e < pw (topD (dig x.natAbs) e) ∧ pw (topD (dig x.natAbs) e) ≤ 2 * (x * pw e) := by
  obtain ⟨b1, b2⟩ := lenZ_bits (x := x) (by omega)
  rw [topD_ne (by omega), show (lenW (dig x.natAbs) : Int) + e = e + (lenW (dig x.natAbs) : Nat) by omega, pw_add _ he]
  have hp := pw_pos e
  obtain ⟨B, hB⟩ : ∃ B : Nat, B = 2 ^ lenW (dig x.natAbs) := ⟨_, rfl⟩
  have hBi : (2 : Int) ^ lenW (dig x.natAbs) = B := by rw [hB]; simp
  rw [← hB] at b1 b2
  rw [hBi]
  have hxn : (x.natAbs : Int) = x := by omega
  constructor
  · rw [Int.mul_comm (pw e)]
    exact Int.mul_lt_mul_of_pos_right (by omega) hp
  · rw [Int.mul_comm (pw e), ← Int.mul_assoc]
    exact Int.mul_le_mul_of_nonneg_right (by omega) (by omega)
/-- Is x at most y times 2 to the -2k, and 2 to the -4000? -/
def wT (x ex y ey K : Int) : Prop := x * pw ex ≤ y * pw (ey - 2 * K) + pw (-4000)
theorem wT_small {x ex y ey K : Int} (hy : 0 ≤ y) (hx : 0 ≤ x) (he : -16384 ≤ ex) (h : x = 0 ∨ topD (dig x.natAbs) ex ≤ -4000) : wT x ex y ey K := by
  unfold wT
  have h1 := pw_pos (ey - 2 * K)
  have h2 := Int.mul_nonneg hy (show 0 ≤ pw (ey - 2 * K) by omega)
  have h3 := pw_pos (-4000)
  by_cases h0 : x = 0
  · rw [h0]; omega
  · have hx0 : 0 < x := by omega
    have ht := h.resolve_left h0
    have h4 := (top_pw hx0 (show -17000 ≤ ex by omega)).1
    have h5 : pw (topD (dig x.natAbs) ex) ≤ pw (-4000) := by
      refine pw_mono ?_ ht
      rw [topD_ne h0]; omega
    omega
theorem wT_great {x ex y ey K : Int} (hx : 0 < x) (hy : 0 ≤ y) (he : -16384 ≤ ex) (hf : -9000 ≤ ey) (hK : 0 ≤ K ∧ K ≤ 200) (h0 : y = 0 → ey = 0) (h1 : topD (dig y.natAbs) ey - 2 * K + 1 < topD (dig x.natAbs) ex) (h2 : -3998 < topD (dig x.natAbs) ex) : ¬ wT x ex y ey K := by
  unfold wT
  have a1 := (top_pw hx (show -17000 ≤ ex by omega)).2
  have a2 : pw (-3997) ≤ pw (topD (dig x.natAbs) ex) := pw_mono (by omega) (by omega)
  have b1 : pw (-3999) = 2 * pw (-4000) := pw_succ2 (by omega) (by omega)
  have b2 : pw (-3998) = 2 * pw (-3999) := pw_succ2 (by omega) (by omega)
  have b3 : pw (-3997) = 2 * pw (-3998) := pw_succ2 (by omega) (by omega)
  have b4 := pw_pos (-4000)
  rcases Int.lt_or_eq_of_le hy with hy | hy
  · obtain ⟨c1, _⟩ := top_pw hy (show -17000 ≤ ey - 2 * K by omega)
    have c2 : topD (dig y.natAbs) (ey - 2 * K) = topD (dig y.natAbs) ey - 2 * K := by rw [topD_ne (by omega), topD_ne (by omega)]; omega
    rw [c2] at c1
    have c3 : -17000 ≤ topD (dig y.natAbs) ey - 2 * K := by rw [topD_ne (by omega)]; omega
    have c4 : pw (topD (dig y.natAbs) ey - 2 * K + 1 + 1) ≤ pw (topD (dig x.natAbs) ex) := pw_mono (by omega) (by omega)
    have c5 := pw_succ (t := topD (dig y.natAbs) ey - 2 * K) c3
    have c6 := pw_succ (t := topD (dig y.natAbs) ey - 2 * K + 1) (by omega)
    generalize topD (dig y.natAbs) ey - 2 * K = T at *
    omega
  · rw [← hy, Int.zero_mul]
    omega
theorem wT_none {x ex y ey K : Int} (hx : 0 < x) (hxs : sz x 60) (hy : 0 ≤ y) (he : -16384 ≤ ex) (hf : -9000 ≤ ey) (hK : 0 ≤ K ∧ K ≤ 200) (h1 : -4000 < topD (dig x.natAbs) ex) (h : y = 0 ∨ topD (dig y.natAbs) ey < -8000) : wT x ex y ey K ↔ x * pw ex ≤ pw (-4000) := by
  unfold wT
  have hp := pw_pos (ey - 2 * K)
  have hyn := Int.mul_nonneg hy (show 0 ≤ pw (ey - 2 * K) by omega)
  constructor
  · intro hw
    rcases Int.lt_or_eq_of_le hy with hy | hy
    · have ht := h.resolve_left (by omega)
      obtain ⟨c1, _⟩ := top_pw hy (show -17000 ≤ ey - 2 * K by omega)
      have c2 : topD (dig y.natAbs) (ey - 2 * K) = topD (dig y.natAbs) ey - 2 * K := by rw [topD_ne (by omega), topD_ne (by omega)]; omega
      rw [c2] at c1
      have c3 : -17000 ≤ topD (dig y.natAbs) ey - 2 * K := by rw [topD_ne (by omega)]; omega
      have c4 : pw (topD (dig y.natAbs) ey - 2 * K) ≤ pw (-8000) := pw_mono c3 (by omega)
      have hl : lenW (dig x.natAbs) ≤ 32 * 60 := lenW_small hxs
      have hex : -5920 ≤ ex := by rw [topD_ne (by omega)] at h1; omega
      -- both are multiples of 2 to the m
      obtain ⟨m, hm1, hm2, hm3⟩ : ∃ m : Int, m ≤ ex ∧ m ≤ -4000 ∧ -5920 ≤ m := ⟨min ex (-4000), by omega, by omega, by omega⟩
      obtain ⟨a, ha⟩ : ∃ a : Nat, ex = m + a := ⟨(ex - m).toNat, by omega⟩
      obtain ⟨b, hb⟩ : ∃ b : Nat, (-4000 : Int) = m + b := ⟨(-4000 - m).toNat, by omega⟩
      have e1 : pw ex = pw m * 2 ^ a := by rw [ha]; exact pw_add a (by omega)
      have e2 : pw (-4000) = pw m * 2 ^ b := by rw [hb]; exact pw_add b (by omega)
      have c5 : pw (-8000) ≤ pw m := pw_mono (by omega) (by omega)
      have hm0 := pw_pos m
      rw [e1, e2] at hw ⊢
      generalize pw m = M at *
      obtain ⟨A, hA⟩ : ∃ A : Int, A = x * 2 ^ a := ⟨_, rfl⟩
      obtain ⟨B, hB⟩ : ∃ B : Int, B = 2 ^ b := ⟨_, rfl⟩
      rw [show x * (M * 2 ^ a) = M * A by rw [hA, ← Int.mul_assoc, Int.mul_comm x M, Int.mul_assoc], ← hB] at hw ⊢
      apply Classical.byContradiction
      intro hc
      have hAB : B + 1 ≤ A := by
        apply Classical.byContradiction
        intro hn
        exact hc (Int.mul_le_mul_of_nonneg_left (by omega) (by omega))
      have := Int.mul_le_mul_of_nonneg_left hAB (show 0 ≤ M by omega)
      rw [Int.mul_add, Int.mul_one] at this
      omega
    · rw [← hy, Int.zero_mul] at hw; omega
  · intro hw; omega
end Go.Proofs.YtphndngifjgeoaaDoor
