/- SoftRises by value: of a greater number the rounded one is no less. Conditions: none but that the slices are not longer than any can be. -/
import Derived.Test.YtdaoblhmnafllaaDoorSrD
import Derived.Test.YtdaoblhmnafllaaDoorSpA
set_option linter.unusedVariables false
set_option linter.unusedSimpArgs false
namespace Go.Proofs.YtdaoblhmnafllaaDoor
open Go.Proofs

theorem ext26 : isExt Tryd.prog 26 Extern.MathFloatBits.float64frombits := ⟨Tryd.f26, Tryd.func26, by kernel_rfl, rfl, by kernel_rfl, by kernel_rfl⟩
theorem ext30 : isExt Tryd.prog 30 Extern.MathFloatBits.float64bits := ⟨Tryd.f30, Tryd.func30, by kernel_rfl, rfl, by kernel_rfl, by kernel_rfl⟩
@[simp ↓] theorem pcall26 {s : St} {dr : Bool} {d : Option Tmp} {K : St → Prop} (x : Operand) (ts : Array TypeId) : PStepC Tryd.prog dr d (.call { callee := .value (.func 26), args := #[x], argTypes := ts }) K s ↔ okDst s d ∧ oz (fromV (s.ev x)) (fun v => K (s.put d v)) := PS_frombits ext26 x ts
@[simp ↓] theorem pcall30 {s : St} {dr : Bool} {d : Option Tmp} {K : St → Prop} (x : Operand) (ts : Array TypeId) : PStepC Tryd.prog dr d (.call { callee := .value (.func 30), args := #[x], argTypes := ts }) K s ↔ okDst s d ∧ oz (bitsV (s.ev x)) (fun v => K (s.put d v)) := PS_bits ext30 x ts

@[simp] theorem closed_float (k : FloatKind) (n : Nat) : (PV.float k n).closed = true := nrfl rfl
@[simp] theorem closedR_float (k : FloatKind) (n : Nat) : (PV.float k n).closedR = true := nrfl rfl
theorem lev_at {x e E : Int} (h0 : x ≠ 0) (hE : E ≤ e) : (lev x e E).natAbs = x.natAbs * 2 ^ (e - E).toNat := by
  unfold lev shZ
  rw [if_neg h0, if_pos (by omega), Int.natAbs_mul, Int.natAbs_pow]
  rfl
def mOf (x e : Int) : Nat := if x = 0 then 0 else spB x.natAbs e (lenW (dig x.natAbs))
theorem mOf_le (x e : Int) : mOf x e ≤ 9218868437227405312 := by
  unfold mOf; split
  · omega
  · exact spB_le _ _ _
theorem mOf_mono {x y e f E : Int} (hx0 : x ≠ 0) (hy0 : y ≠ 0) (he : -16384 ≤ e) (hf : -16384 ≤ f) (hE : -16384 ≤ E) (h1 : E ≤ e) (h2 : E ≤ f) (h : (lev x e E).natAbs ≤ (lev y f E).natAbs) : mOf x e ≤ mOf y f := by
  unfold mOf
  rw [if_neg hx0, if_neg hy0]
  rw [lev_at hx0 h1, lev_at hy0 h2] at h
  refine spB_mono (K := 20000) (lenZ_bits hx0) (lenZ_bits hy0) (by omega) (by omega) (by omega) ?_
  rw [show (e + 20000).toNat = (e - E).toNat + (E + 20000).toNat by omega, show (f + 20000).toNat = (f - E).toNat + (E + 20000).toNat by omega, Nat.pow_add, Nat.pow_add, ← Nat.mul_assoc, ← Nat.mul_assoc]
  exact Nat.mul_le_mul_right _ h
theorem cmpZ_le {p q : Int} (h : cmpZ (p - q) ≤ 0) : p ≤ q := by
  have := cmpZ_cases (p - q); omega
theorem lev_sgn {x e E : Int} (h0 : x ≠ 0) (hE : E ≤ e) : (x < 0 ↔ lev x e E < 0) := by
  have h1 := lev_sign (x := x) (e := e) (E := E) (fun _ => hE)
  have h2 := cmpZ_cases x
  have h3 := cmpZ_cases (lev x e E)
  omega
theorem rises {x y e f : Int} (h1 : x = 0 → e = 0) (h2 : y = 0 → f = 0) (he : -16384 ≤ e) (hf : -16384 ≤ f) (h : ordD x y e f ≤ 0) : sgz (decide (x < 0)) (mOf x e) ≤ sgz (decide (y < 0)) (mOf y f) := by
  rw [← ordD_diff h1 h2, sum_diff] at h
  have hle := cmpZ_le h
  obtain ⟨q1, q2, q3⟩ := lowE_le h1 h2
  obtain ⟨E, hE⟩ : ∃ E, E = lowE x y e f := ⟨_, rfl⟩
  rw [← hE] at hle q1 q2
  by_cases hx0 : x = 0
  · have hl : lev x e E = 0 := by unfold lev; rw [if_pos hx0]
    have hm : mOf x e = 0 := by unfold mOf; rw [if_pos hx0]
    have hy : ¬ y < 0 := by
      intro hc
      have := (lev_sgn (by omega) (q2 (by omega))).1 hc
      omega
    rw [hm]
    unfold sgz
    simp only [hx0, hy, decide_false, Bool.false_eq_true, if_false, Int.lt_irrefl]
    omega
  · by_cases hy0 : y = 0
    · have hl : lev y f E = 0 := by unfold lev; rw [if_pos hy0]
      have hm : mOf y f = 0 := by unfold mOf; rw [if_pos hy0]
      have hx : x < 0 := by
        rcases Int.lt_trichotomy x 0 with hc | hc | hc
        · exact hc
        · exact absurd hc hx0
        · have h3 := lev_sign (x := x) (e := e) (E := E) (fun h => q1 h)
          have h4 := cmpZ_cases x
          have h5 := cmpZ_cases (lev x e E)
          omega
      rw [hm]
      unfold sgz
      simp only [hx, hy0, decide_true, if_true, Int.lt_irrefl, decide_false, Bool.false_eq_true, if_false]
      omega
    · have hxs := lev_sgn hx0 (q1 hx0)
      have hys := lev_sgn hy0 (q2 hy0)
      have hlow : -16384 ≤ E := by rw [hE]; unfold lowE; rw [if_neg hx0, if_neg hy0]; omega
      unfold sgz
      by_cases hx : x < 0
      · by_cases hy : y < 0
        · have := mOf_mono hy0 hx0 hf he hlow (q2 hy0) (q1 hx0) (by have := hxs.1 hx; have := hys.1 hy; omega)
          simp only [hx, hy, decide_true, if_true]
          omega
        · simp only [hx, hy, decide_true, if_true, decide_false, Bool.false_eq_true, if_false]
          omega
      · by_cases hy : y < 0
        · have := hys.1 hy; omega
        · have := mOf_mono hx0 hy0 he hf hlow (q1 hx0) (q2 hy0) (by omega)
          simp only [hx, hy, decide_false, Bool.false_eq_true, if_false]
          omega

theorem RoundM_call {n : Nat} (hn : 0 < n) (x E : Int) (i : Sid) (hi : i.f < n) (hl : (dig x.natAbs).length < 35184372088800) (hr : rightD (decide (x < 0)) (dig x.natAbs) E = true) :
    ∃ gf : Int, ∀ {Q : PV → Nat → List Nat → Prop}, (∀ n', n ≤ n' → Q (.tup [.int .u64 (sB (decide (x < 0)) (mOf x E) : Nat), .int .u8 gf, .int .i64 0]) n' []) → PCall Tryd.prog 23 [D (decide (x < 0)) i (dig x.natAbs) E] n Q := by
  by_cases h0 : x = 0
  · subst h0
    have hd : dig (0 : Int).natAbs = [] := dig_zero
    refine ⟨0, fun h => Round_call hn _ i hi _ E hl (Lim.dig _) (fun h => by rw [hr] at h; cases h) (fun _ _ => ?_) (fun _ k => absurd hd k)⟩
    have e : sB (decide ((0 : Int) < 0)) (mOf 0 E) = 0 := by simp [sB, mOf]
    rw [e] at h
    exact h
  · have hne := (dig_ne h0).2
    refine ⟨flg (spB (val (dig x.natAbs)) E (lenW (dig x.natAbs))) (spX (val (dig x.natAbs)) E (lenW (dig x.natAbs))), fun h => Round_call hn _ i hi _ E hl (Lim.dig _) (fun h => by rw [hr] at h; cases h) (fun _ k => absurd k hne) (fun _ _ n' g => ?_)⟩
    have := h n' g
    unfold mOf at this
    rw [if_neg h0] at this
    rw [val_dig] at this ⊢
    exact this

theorem Rises_call {n : Nat} (hn : 0 < n) (neg : Bool) (i : Sid) (hi : i.f < n) (l : List Nat) (E : Int) (hl : l.length < 35184372088800) (ll : Lim l) (neg2 : Bool) (i2 : Sid) (hi2 : i2.f < n) (l2 : List Nat) (E2 : Int) (hl2 : l2.length < 35184372088800) (ll2 : Lim l2) :
    PCall Tryd.prog 7 [D neg i l E, D neg2 i2 l2 E2] n (fun v _ D => v = .bool true ∧ D = []) := by
  refine of7 hn ?_
  by_cases h60 : 60 < l.length
  · simp (disch := omega) [c7, h60]
    refine CallK.of (by simp) (awake_call hn fun n' g => ?_)
    (simp (disch := omega) [g] <;> omega)
  by_cases h61 : 60 < l2.length
  · simp (disch := omega) [c7, h60, h61]
    refine CallK.of (by simp) (awake_call hn fun n' g => ?_)
    (simp (disch := omega) [g] <;> omega)
  cases hr : rightD neg l E
  · simp (disch := omega) [c7, h60, h61]
    refine CallK.of (by simp) (RightD_call hn neg i l E hl ll ?_)
    simp (disch := omega) [hr]
    refine CallK.of (by simp) (awake_call hn fun n' g => ?_)
    (simp (disch := omega) [g] <;> omega)
  cases hr2 : rightD neg2 l2 E2
  · simp (disch := omega) [c7, h60, h61]
    refine CallK.of (by simp) (RightD_call hn neg i l E hl ll ?_)
    simp (disch := omega) [hr]
    refine CallK.of (by simp) (RightD_call hn neg2 i2 l2 E2 hl2 ll2 ?_)
    simp (disch := omega) [hr2]
    refine CallK.of (by simp) (awake_call hn fun n' g => ?_)
    (simp (disch := omega) [g] <;> omega)
  obtain ⟨x, rfl, rfl, hx, hE1, hE2, hM, hz, hodd⟩ := rightD_Z hr ll
  obtain ⟨y, rfl, rfl, hy, hF1, hF2, hM2, hz2, hodd2⟩ := rightD_Z hr2 ll2
  have hv := val_lt (Lim.dig x.natAbs)
  rw [val_dig] at hv
  have hs : sz x 255 := Nat.lt_of_lt_of_le hv (Nat.pow_le_pow_right (by omega) (by omega))
  have hv2 := val_lt (Lim.dig y.natAbs)
  rw [val_dig] at hv2
  have hs2 : sz y 255 := Nat.lt_of_lt_of_le hv2 (Nat.pow_le_pow_right (by omega) (by omega))
  obtain ⟨g1, hround1⟩ := RoundM_call hn x E i hi hl hr
  have hord := order_sB (decide (x < 0)) (decide (y < 0)) (mOf_le x E) (mOf_le y E2)
  have hor : ordD x y E E2 = -1 ∨ ordD x y E E2 = 0 ∨ ordD x y E E2 = 1 := by
    rw [← ordD_diff hz hz2]
    have := cmpZ_cases (sumZ x (-y) E E2)
    omega
  have r1 : ordD x y E E2 ≤ 0 → sgz (decide (x < 0)) (mOf x E) ≤ sgz (decide (y < 0)) (mOf y E2) := rises hz hz2 hE1 hF1
  have r2 : 0 ≤ ordD x y E E2 → sgz (decide (y < 0)) (mOf y E2) ≤ sgz (decide (x < 0)) (mOf x E) := fun h => rises hz2 hz hF1 hE1 (by rw [ordD_swap hz hz2]; omega)
  obtain ⟨o, ho⟩ : ∃ o, o = FloatKind.f64.format.order (sB (decide (x < 0)) (mOf x E)) (sB (decide (y < 0)) (mOf y E2)) := ⟨_, rfl⟩
  rw [← ho] at hord
  have o1 : ordD x y E E2 ≤ 0 → (o == some .lt || o == some .eq) = true := by
    intro h
    have := r1 h
    rw [hord]; unfold ordI
    split
    · rfl
    · split
      · rfl
      · exfalso; omega
  have o2 : 0 ≤ ordD x y E E2 → (o == some .gt || o == some .eq) = true := by
    intro h
    have := r2 h
    rw [hord]; unfold ordI
    split
    · exfalso; omega
    · split <;> rfl
  have b1 : ∀ t, binPV Tryd.prog .leq t (.float .f64 (sB (decide (x < 0)) (mOf x E))) (.float .f64 (sB (decide (y < 0)) (mOf y E2))) = some (.bool (o == some .lt || o == some .eq)) := fun t => by rw [binPV_leqf, ho]
  have b2 : ∀ t, binPV Tryd.prog .geq t (.float .f64 (sB (decide (x < 0)) (mOf x E))) (.float .f64 (sB (decide (y < 0)) (mOf y E2))) = some (.bool (o == some .gt || o == some .eq)) := fun t => by rw [binPV_geqf, ho]
  simp (disch := omega) [c7, h60, h61]
  refine CallK.of (by simp) (RightD_call hn _ i _ E hl (Lim.dig _) ?_)
  simp (disch := omega) [hr]
  refine CallK.of (by simp) (RightD_call hn _ i2 _ E2 hl2 (Lim.dig _) ?_)
  simp (disch := omega) [hr2]
  refine CallK.of (by simp) (hround1 fun n1 k1 => ?_)
  simp (disch := omega) [k1]
  obtain ⟨g2, hround2⟩ := RoundM_call (n := n1) (by omega) y E2 i2 (by omega) hl2 hr2
  refine CallK.of (by simp) (hround2 fun n2 k2 => ?_)
  simp (disch := omega) [k1, k2]
  refine CallK.of (by simp) (RefCompareD_call (by omega) x y E E2 i i2 (by omega) (by omega) hs hs2 hz hz2 ⟨hE1, hE2⟩ ⟨hF1, hF2⟩ fun n3 k3 => ?_)
  rcases hor with ho1 | ho1 | ho1
  · have o1' := o1 (by omega)
    simp (disch := omega) [k1, k2, k3, ho1, b1, o1', -binPV_leqf, -binPV_geqf]
    refine CallK.of (by simp) (awake_call (by omega) fun n' g => ?_)
    (simp (disch := omega) [k1, k2, k3, g] <;> omega)
  · have o1' := o1 (by omega)
    have o2' := o2 (by omega)
    simp (disch := omega) [k1, k2, k3, ho1, b1, b2, o1', o2', -binPV_leqf, -binPV_geqf]
    refine CallK.of (by simp) (awake_call (by omega) fun n' g => ?_)
    (simp (disch := omega) [k1, k2, k3, g] <;> omega)
  · have o2' := o2 (by omega)
    simp (disch := omega) [k1, k2, k3, ho1, b2, o2', -binPV_leqf, -binPV_geqf]
    refine CallK.of (by simp) (awake_call (by omega) fun n' g => ?_)
    (simp (disch := omega) [k1, k2, k3, g] <;> omega)
end Go.Proofs.YtdaoblhmnafllaaDoor
