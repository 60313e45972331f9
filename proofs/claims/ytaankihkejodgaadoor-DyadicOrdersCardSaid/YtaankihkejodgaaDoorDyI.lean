/- What the functions of layer 2 do, by value: which of two is more. -/
import Derived.Test.YtaankihkejodgaaDoorDyH
set_option linter.unusedVariables false
set_option linter.unusedSimpArgs false
namespace Go.Proofs.YtaankihkejodgaaDoor
open Go.Proofs

theorem signD_call {n : Nat} (hn : 0 < n) (x e : Int) (ia : Sid) (hx : sz x 512) {Q : PV → Nat → List Nat → Prop}
    (hQ : Q (.int .i64 (cmpZ x)) n []) : PCall Tryd.prog 55 [D (decide (x < 0)) ia (dig x.natAbs) e] n Q := by
  have lx := hx.len
  unfold cmpZ at hQ
  refine of55 hn ?_
  by_cases h0 : x = 0
  · subst h0
    simp at hQ
    simpa (disch := omega) [c55, dig_zero] using hQ
  · obtain ⟨hd, hd2⟩ := dig_ne h0
    by_cases h1 : x < 0
    · simp [h1] at hQ
      simpa (disch := omega) [c55, hd2, h1] using hQ
    · simp [h1, h0] at hQ
      simpa (disch := omega) [c55, hd2, h1] using hQ
theorem RefSignD_call {n : Nat} (hn : 0 < n) (x e : Int) (ia : Sid) (hx : sz x 512) {Q : PV → Nat → List Nat → Prop}
    (hQ : Q (.int .i64 (cmpZ x)) n []) : PCall Tryd.prog 31 [D (decide (x < 0)) ia (dig x.natAbs) e] n Q := by
  have lx := hx.len
  unfold cmpZ at hQ
  refine of31 hn ?_
  by_cases h0 : x = 0
  · subst h0
    simp at hQ
    simpa (disch := omega) [c31, dig_zero, minV_int] using hQ
  · obtain ⟨hd, hd2⟩ := dig_ne h0
    by_cases h1 : x < 0
    · simp [h1] at hQ
      simpa (disch := omega) [c31, hd2, h1] using hQ
    · simp [h1, h0] at hQ
      have hm : minV (.int .i64 ((dig x.natAbs).length : Int)) (.int .i64 1) = some (.int .i64 1) := by
        rw [minV_int]; congr 2; split <;> omega
      simpa (disch := omega) [c31, hd2, h1, hm] using hQ

/-- Which of two is more. -/
def ordD (x y e f : Int) : Int :=
  if cmpZ x < cmpZ y then -1 else if cmpZ y < cmpZ x then 1 else if x = 0 then 0
  else if topD (dig y.natAbs) f < topD (dig x.natAbs) e then cmpZ x else if topD (dig x.natAbs) e < topD (dig y.natAbs) f then - cmpZ x else cmpZ (sumZ x (-y) e f)
theorem cmpZ_cases (x : Int) : (x < 0 ∧ cmpZ x = -1) ∨ (x = 0 ∧ cmpZ x = 0) ∨ (0 < x ∧ cmpZ x = 1) := by
  unfold cmpZ; split
  · exact .inl ⟨by assumption, rfl⟩
  · split
    · exact .inr (.inl ⟨by assumption, rfl⟩)
    · exact .inr (.inr ⟨by omega, rfl⟩)
theorem topD_ne {x e : Int} (h : x ≠ 0) : topD (dig x.natAbs) e = lenW (dig x.natAbs) + e := by unfold topD; rw [if_neg (dig_ne h).2]
/-- Of one top, two are not wide. -/
theorem top_narrow {x y e f : Int} (hx : sz x 255) (hy : sz y 255) (hx0 : x ≠ 0) (hy0 : y ≠ 0) (ht : topD (dig x.natAbs) e = topD (dig y.natAbs) f) : wideD x y e f = false := by
  rw [topD_ne hx0, topD_ne hy0] at ht
  have h1 := lenW_small hx
  have h2 := lenW_small hy
  unfold wideD widE lowE
  rw [if_neg hx0, if_neg hy0]
  simp; constructor <;> (intro _; omega)
theorem top_more {x y e f : Int} (hx0 : x ≠ 0) (hy0 : y ≠ 0) (h : topD (dig y.natAbs) f < topD (dig x.natAbs) e) : (lev y f (lowE x y e f)).natAbs < (lev x e (lowE x y e f)).natAbs := by
  rw [topD_ne hx0, topD_ne hy0] at h
  have hx := lenZ_bits hx0
  have hy := lenZ_bits hy0
  have hE : lowE x y e f = min e f := by unfold lowE; rw [if_neg hx0, if_neg hy0]
  generalize lowE x y e f = E at hE
  obtain ⟨k, hk⟩ : ∃ k : Nat, e - E = k := ⟨(e - E).toNat, by omega⟩
  obtain ⟨m, hm⟩ : ∃ m : Nat, f - E = m := ⟨(f - E).toNat, by omega⟩
  unfold lev
  rw [if_neg hx0, if_neg hy0, shZ_abs, shZ_abs, if_pos (by omega), if_pos (by omega), hk, hm, Int.toNat_natCast, Int.toNat_natCast]
  have h3 : 2 ^ (lenW (dig y.natAbs) + m + 1) ≤ 2 ^ (lenW (dig x.natAbs) + k) := Nat.pow_le_pow_right (by omega) (by omega)
  rw [Nat.pow_succ, Nat.pow_add, Nat.pow_add] at h3
  have h4 := Nat.mul_lt_mul_of_pos_right hy.1 (show 0 < 2 ^ m from Nat.pos_of_ne_zero (by simp))
  have h5 := Nat.mul_le_mul_right (2 ^ k) hx.2
  rw [Nat.mul_assoc] at h5
  omega
theorem lev_sign {x e E : Int} (hE : x ≠ 0 → E ≤ e) : cmpZ (lev x e E) = cmpZ x := by
  unfold lev
  by_cases h0 : x = 0
  · rw [if_pos h0, h0]
  · rw [if_neg h0]
    have h2 : shZ x (e - E) = x * 2 ^ (e - E).toNat := by unfold shZ; rw [if_pos (by have := hE h0; omega)]
    rw [h2]
    have hp := two_pow_pos' (e - E).toNat
    rcases cmpZ_cases x with ⟨h, h1⟩ | ⟨h, h1⟩ | ⟨h, h1⟩
    · have := Int.mul_neg_of_neg_of_pos h hp
      unfold cmpZ; rw [if_pos this, if_pos h]
    · exact absurd h h0
    · have := Int.mul_pos h hp
      unfold cmpZ; rw [if_neg (by omega), if_neg (by omega), if_neg (by omega), if_neg (by omega)]
theorem lev_neg (y f E : Int) : lev (-y) f E = - lev y f E := by
  unfold lev
  by_cases h : y = 0
  · subst h; rfl
  · rw [if_neg h, if_neg (by omega), shZ_negate]
theorem sum_diff (x y e f : Int) : sumZ x (-y) e f = lev x e (lowE x y e f) - lev y f (lowE x y e f) := by
  unfold sumZ; rw [lowE_neg, lev_neg]; omega
theorem cmp_of {p q : Int} {s : Int} (h : (s = -1 ∧ p < q) ∨ (s = 1 ∧ q < p)) : cmpZ (p - q) = s := by
  unfold cmpZ
  rcases h with ⟨rfl, h⟩ | ⟨rfl, h⟩
  · rw [if_pos (by omega)]
  · rw [if_neg (by omega), if_neg (by omega)]
/-- The difference's sign says it. -/
theorem ordD_diff {x y e f : Int} (h1 : x = 0 → e = 0) (h2 : y = 0 → f = 0) : cmpZ (sumZ x (-y) e f) = ordD x y e f := by
  obtain ⟨q1, q2, q3⟩ := lowE_le h1 h2
  have sX := lev_sign (x := x) (e := e) (E := lowE x y e f) q1
  have sY := lev_sign (x := y) (e := f) (E := lowE x y e f) q2
  have tm := fun a b => top_more (x := x) (y := y) (e := e) (f := f) a b
  have tl : x ≠ 0 → y ≠ 0 → topD (dig x.natAbs) e < topD (dig y.natAbs) f → (lev x e (lowE x y e f)).natAbs < (lev y f (lowE x y e f)).natAbs := fun a b c => by
    have := top_more (x := y) (y := x) (e := f) (f := e) b a c
    rw [lowE_swap h1 h2] at this
    exact this
  unfold ordD
  by_cases hc1 : cmpZ x < cmpZ y
  · rw [if_pos hc1, sum_diff]
    generalize lev x e (lowE x y e f) = X at *
    generalize lev y f (lowE x y e f) = Y at *
    have := cmpZ_cases X; have := cmpZ_cases Y
    exact cmp_of (.inl ⟨rfl, by omega⟩)
  · rw [if_neg hc1]
    by_cases hc2 : cmpZ y < cmpZ x
    · rw [if_pos hc2, sum_diff]
      generalize lev x e (lowE x y e f) = X at *
      generalize lev y f (lowE x y e f) = Y at *
      have := cmpZ_cases X; have := cmpZ_cases Y
      exact cmp_of (.inr ⟨rfl, by omega⟩)
    · rw [if_neg hc2]
      by_cases hx0 : x = 0
      · rw [if_pos hx0]
        have hy0 : y = 0 := by have := cmpZ_cases x; have := cmpZ_cases y; omega
        subst hx0; subst hy0
        simp [sumZ, lev, cmpZ]
      · rw [if_neg hx0]
        have hy0 : y ≠ 0 := by have := cmpZ_cases x; have := cmpZ_cases y; omega
        by_cases ht1 : topD (dig y.natAbs) f < topD (dig x.natAbs) e
        · rw [if_pos ht1, sum_diff]
          have := tm hx0 hy0 ht1
          generalize lev x e (lowE x y e f) = X at *
          generalize lev y f (lowE x y e f) = Y at *
          have := cmpZ_cases X; have := cmpZ_cases Y; have := cmpZ_cases x
          refine cmp_of ?_
          omega
        · rw [if_neg ht1]
          by_cases ht2 : topD (dig x.natAbs) e < topD (dig y.natAbs) f
          · rw [if_pos ht2, sum_diff]
            have := tl hx0 hy0 ht2
            generalize lev x e (lowE x y e f) = X at *
            generalize lev y f (lowE x y e f) = Y at *
            have := cmpZ_cases X; have := cmpZ_cases Y; have := cmpZ_cases x
            refine cmp_of ?_
            omega
          · rw [if_neg ht2]
theorem ordD_swap {x y e f : Int} (h1 : x = 0 → e = 0) (h2 : y = 0 → f = 0) : ordD y x f e = - ordD x y e f := by
  rw [← ordD_diff h1 h2, ← ordD_diff h2 h1, sum_diff, sum_diff, lowE_swap h1 h2]
  generalize lev x e (lowE x y e f) = X
  generalize lev y f (lowE x y e f) = Y
  have := cmpZ_cases (X - Y); have := cmpZ_cases (Y - X)
  omega
theorem ordD_same {x y e f : Int} (hx : dyM x = x) (hy : dyM y = y) (h1 : x = 0 → e = 0) (h2 : y = 0 → f = 0) (tx : x ≠ 0 → tz x.natAbs = 0) (ty : y ≠ 0 → tz y.natAbs = 0) : ordD x y e f = 0 ↔ x = y ∧ e = f := by
  rw [← ordD_diff h1 h2, sum_diff]
  obtain ⟨q1, q2, q3⟩ := lowE_le h1 h2
  have sX := lev_sign (x := x) (e := e) (E := lowE x y e f) q1
  have sY := lev_sign (x := y) (e := f) (E := lowE x y e f) q2
  constructor
  · intro h
    have hXY : lev x e (lowE x y e f) = lev y f (lowE x y e f) := by
      have := cmpZ_cases (lev x e (lowE x y e f) - lev y f (lowE x y e f))
      omega
    by_cases hx0 : x = 0
    · have hy0 : y = 0 := by
        rw [hXY] at sX
        have := cmpZ_cases x; have := cmpZ_cases y
        omega
      exact ⟨by omega, by rw [h1 hx0, h2 hy0]⟩
    · have hy0 : y ≠ 0 := by
        intro hy0
        rw [hXY] at sX
        have := cmpZ_cases x; have := cmpZ_cases y
        omega
      have a1 := q1 hx0
      have a2 := q2 hy0
      generalize lowE x y e f = E at *
      have e1 : ∀ (x e : Int), x ≠ 0 → E ≤ e → lev x e E = x * 2 ^ (e - E).toNat := fun x e h0 hE => by
        unfold lev; rw [if_neg h0]; unfold shZ; rw [if_pos (by omega)]
      rw [e1 x e hx0 a1, e1 y f hy0 a2] at hXY
      have hM := congrArg dyM hXY
      rw [dyM_mul, dyM_mul, hx, hy] at hM
      have hEE := congrArg (fun q => dyE q E) hXY
      simp only [dyE_mul] at hEE
      unfold dyE at hEE
      rw [if_neg hx0, if_neg hy0, tx hx0, ty hy0] at hEE
      exact ⟨hM, by omega⟩
  · rintro ⟨rfl, rfl⟩
    rw [Int.sub_self]; rfl

theorem CompareD_bad {n : Nat} (hn : 0 < n) (na nb : Bool) (ia ib : Sid) (a b : List Nat) (e f : Int) (ha : a.length < 35184372088800) (hb : b.length < 35184372088800) (la : Lim a) (lb : Lim b) (h : (rightD na a e && rightD nb b f) = false) {Q : PV → Nat → List Nat → Prop}
    (hQ : Q (.tup [.int .i64 0, .int .i64 1]) n []) : PCall Tryd.prog 30 [D na ia a e, D nb ib b f] n Q := by
  refine of30 hn ?_
  simp (disch := omega) [c30]
  refine CallK.of (by simp) (TwoD_call hn na nb ia ib a b e f ha hb la lb ?_)
  rw [h]
  simpa using hQ
theorem CompareD_Z {n : Nat} (hn : 0 < n) (x y e f : Int) (ia ib : Sid) (hx : sz x 255) (hy : sz y 255) (hx2 : rightD (decide (x < 0)) (dig x.natAbs) e = true) (hy2 : rightD (decide (y < 0)) (dig y.natAbs) f = true) (h1 : x = 0 → e = 0) (h2 : y = 0 → f = 0) {Q : PV → Nat → List Nat → Prop}
    (hQ : ∀ n', n ≤ n' → Q (.tup [.int .i64 (ordD x y e f), .int .i64 0]) n' []) : PCall Tryd.prog 30 [D (decide (x < 0)) ia (dig x.natAbs) e, D (decide (y < 0)) ib (dig y.natAbs) f] n Q := by
  have lx := hx.len
  have ly := hy.len
  have he := rightD_E hx2
  have hf := rightD_E hy2
  have hQn := hQ n (Nat.le_refl _)
  refine of30 hn ?_
  simp (disch := omega) [c30]
  refine CallK.of (by simp) (TwoD_call hn _ _ ia ib _ _ e f (by omega) (by omega) (Lim.dig _) (Lim.dig _) ?_)
  rw [hx2, hy2]
  simp (disch := omega) []
  refine CallK.of (by simp) (signD_call hn x e ia (hx.mono (by omega)) ?_)
  simp (disch := omega) []
  refine CallK.of (by simp) (signD_call hn y f ib (hy.mono (by omega)) ?_)
  unfold ordD at hQn
  by_cases hc1 : cmpZ x < cmpZ y
  · rw [if_pos hc1] at hQn
    simpa (disch := omega) [hc1] using hQn
  · rw [if_neg hc1] at hQn
    by_cases hc2 : cmpZ y < cmpZ x
    · rw [if_pos hc2] at hQn
      simpa (disch := omega) [hc1, hc2] using hQn
    · rw [if_neg hc2] at hQn
      by_cases hx0 : x = 0
      · rw [if_pos hx0] at hQn
        have hc0 : cmpZ x = 0 := by rw [hx0]; rfl
        rw [hc0] at hc1 hc2
        simpa (disch := omega) [hc0, hc1, hc2] using hQn
      · rw [if_neg hx0] at hQn
        have hy0 : y ≠ 0 := by have := cmpZ_cases x; have := cmpZ_cases y; omega
        have hc0 : ¬ cmpZ x = 0 := by have := cmpZ_cases x; omega
        have hc0' : (cmpZ x == 0) = false := by simpa using hc0
        simp (disch := omega) [hc1, hc2, hc0, hc0']
        refine CallK.of (by simp) (TopD_call hn _ ia _ e (by omega) (Lim.dig _) (by omega) ?_)
        simp (disch := omega) []
        refine CallK.of (by simp) (TopD_call hn _ ib _ f (by omega) (Lim.dig _) (by omega) ?_)
        by_cases ht1 : topD (dig y.natAbs) f < topD (dig x.natAbs) e
        · rw [if_pos ht1] at hQn
          simpa (disch := omega) [ht1] using hQn
        · rw [if_neg ht1] at hQn
          simp (disch := omega) [ht1]
          refine CallK.of (by simp) (TopD_call hn _ ia _ e (by omega) (Lim.dig _) (by omega) ?_)
          simp (disch := omega) []
          refine CallK.of (by simp) (TopD_call hn _ ib _ f (by omega) (Lim.dig _) (by omega) ?_)
          by_cases ht2 : topD (dig x.natAbs) e < topD (dig y.natAbs) f
          · rw [if_pos ht2] at hQn
            have hw : IntKind.i64.wrap (- cmpZ x) = - cmpZ x := wrap_i64_is rfl (by have := cmpZ_cases x; omega)
            simpa (disch := omega) [-wrap_i64_at, ht2, hw] using hQn
          · rw [if_neg ht2] at hQn
            have hw := top_narrow (e := e) (f := f) hx hy hx0 hy0 (by omega)
            simp (disch := omega) [ht2]
            refine CallK.of (by simp) (level_call hn x y e f ia ib hx hy h1 h2 he hf fun i j n1 xn yn xl yl E err g1 hl => ?_)
            obtain ⟨l1, l2, hl⟩ := hl
            rw [hw, if_neg (by simp)] at hl
            obtain ⟨rfl, hE, rfl, rfl, rfl, rfl⟩ := hl
            simp (disch := omega) [g1]
            refine CallK.of (by simp) (Compare_call (by omega) _ _ i j _ _ (by omega) (by omega) (Lim.dig _) (Lim.dig _) ?_)
            rw [rightW_Z l1, rightW_Z l2, numW_dig, numW_dig]
            have := hQ n1 g1
            have ho : ordD x y e f = cmpZ (lev x e E - lev y f E) := by
              rw [← ordD_diff h1 h2, sum_diff, hE]
            rw [ho] at this
            simpa (disch := omega) [g1] using this
theorem RefSubD_00 {n : Nat} (hn : 0 < n) (ia ib : Sid) (hia : ia.f < n) (hib : ib.f < n) {Q : PV → Nat → List Nat → Prop}
    (hQ : ∀ i1 n1, n ≤ n1 → Q (D false i1 [] 0) n1 []) : PCall Tryd.prog 28 [D false ia [] 0, D false ib [] 0] n Q := by
  have hw : wideD 0 0 0 0 = false := by simp [wideD, widE]
  have hs : sumZ 0 (-0) 0 0 = 0 := by simp [sumZ, lev]
  have hd : dyM 0 = 0 := by simp [dyM]
  have := @RefSubD_call n hn 0 0 0 0 ia ib hia hib (sz_zero _) (sz_zero _) (fun _ => rfl) (fun _ => rfl) (by omega) (by omega) hw Q
  rw [hs, hd, if_pos rfl] at this
  simp only [Int.natAbs_zero, dig_zero] at this
  exact this (fun i1 n1 g1 => hQ i1 n1 g1)
theorem RefSignD_0 {n : Nat} (hn : 0 < n) (ia : Sid) {Q : PV → Nat → List Nat → Prop}
    (hQ : Q (.int .i64 0) n []) : PCall Tryd.prog 31 [D false ia [] 0] n Q := by
  have := @RefSignD_call n hn 0 0 ia (sz_zero _) Q
  simp only [Int.natAbs_zero, dig_zero] at this
  exact this hQ
theorem RefCompareD_call {n : Nat} (hn : 0 < n) (x y e f : Int) (ia ib : Sid) (hia : ia.f < n) (hib : ib.f < n) (hx : sz x 255) (hy : sz y 255) (h1 : x = 0 → e = 0) (h2 : y = 0 → f = 0) (he : -16384 ≤ e ∧ e ≤ 16384) (hf : -16384 ≤ f ∧ f ≤ 16384) {Q : PV → Nat → List Nat → Prop}
    (hQ : ∀ n', n ≤ n' → Q (.int .i64 (ordD x y e f)) n' []) : PCall Tryd.prog 32 [D (decide (x < 0)) ia (dig x.natAbs) e, D (decide (y < 0)) ib (dig y.natAbs) f] n Q := by
  have lx := hx.len
  have ly := hy.len
  have hQn := hQ n (Nat.le_refl _)
  have cx := cmpZ_cases x
  have cy := cmpZ_cases y
  refine of32 hn ?_
  simp (disch := omega) [c32]
  refine CallK.of (by simp) (RefSignD_call hn x e ia (hx.mono (by omega)) ?_)
  simp (disch := omega) []
  refine CallK.of (by simp) (RefSignD_call hn y f ib (hy.mono (by omega)) ?_)
  unfold ordD at hQn
  by_cases hc : cmpZ x = cmpZ y
  · have hc' : (cmpZ x != cmpZ y) = false := by simpa using hc
    rw [if_neg (by omega), if_neg (by omega)] at hQn
    simp (disch := omega) [hc']
    refine CallK.of (by simp) (RefTopD_call hn _ ia _ e (by omega) (Lim.dig _) (by omega) ?_)
    simp (disch := omega) []
    refine CallK.of (by simp) (RefTopD_call hn _ ib _ f (by omega) (Lim.dig _) (by omega) ?_)
    by_cases hx0 : x = 0
    · have hy0 : y = 0 := by omega
      have he0 := h1 hx0
      have hf0 := h2 hy0
      subst hx0 hy0 he0 hf0
      have hw : wideD 0 0 0 0 = false := by simp [wideD, widE]
      simp (disch := omega) [topD, dig_zero]
      refine CallK.of (by simp) (RefSubD_00 hn ia ib hia hib fun i1 n1 g1 => ?_)
      simp (disch := omega) [g1]
      refine CallK.of (by simp) (RefSignD_0 (by omega) i1 ?_)
      have := hQ n1 g1
      have ho : ordD 0 0 0 0 = 0 := by simp [ordD]
      rw [ho] at this
      simpa (disch := omega) [g1, cmpZ] using this
    · rw [if_neg hx0] at hQn
      have hy0 : y ≠ 0 := by omega
      by_cases ht : topD (dig x.natAbs) e = topD (dig y.natAbs) f
      · have ht' : (topD (dig x.natAbs) e != topD (dig y.natAbs) f) = false := by simpa using ht
        have hw := top_narrow hx hy hx0 hy0 ht
        simp (disch := omega) [ht']
        refine CallK.of (by simp) (RefSubD_call hn x y e f ia ib hia hib hx hy h1 h2 he hf hw fun i1 n1 g1 => ?_)
        simp (disch := omega) [g1]
        have z2 := sumZ_sz hx (sz_neg hy) h1 (fun h => h2 (by omega)) (by rw [wideD_neg]; exact hw)
        have hs : cmpZ (dyM (sumZ x (-y) e f)) = ordD x y e f := by
          rw [← ordD_diff h1 h2]
          by_cases hz : sumZ x (-y) e f = 0
          · rw [hz]; simp [dyM]
          · have a := (dyM_back hz).2.1
            have hp := two_pow_pos' (tz (sumZ x (-y) e f).natAbs)
            generalize dyM (sumZ x (-y) e f) = m at *
            generalize tz (sumZ x (-y) e f).natAbs = t at *
            rw [a]
            rcases cmpZ_cases m with ⟨h, h1⟩ | ⟨h, h1⟩ | ⟨h, h1⟩
            · have := Int.mul_neg_of_neg_of_pos h hp
              rw [h1]; unfold cmpZ; rw [if_pos this]
            · rw [h]; simp
            · have := Int.mul_pos h hp
              rw [h1]; unfold cmpZ; rw [if_neg (by omega), if_neg (by omega)]
        refine CallK.of (by simp) (RefSignD_call (by omega) (dyM (sumZ x (-y) e f)) _ i1 (sz_dyM z2) ?_)
        rw [hs]
        have := hQ n1 g1
        simpa (disch := omega) [g1] using this
      · have ht' : (topD (dig x.natAbs) e != topD (dig y.natAbs) f) = true := by simpa using ht
        simp (disch := omega) [ht']
        refine CallK.of (by simp) (RefTopD_call hn _ ia _ e (by omega) (Lim.dig _) (by omega) ?_)
        simp (disch := omega) []
        refine CallK.of (by simp) (RefTopD_call hn _ ib _ f (by omega) (Lim.dig _) (by omega) ?_)
        simp (disch := omega) []
        refine CallK.of (by simp) (RefSignD_call hn x e ia (hx.mono (by omega)) ?_)
        by_cases ht1 : topD (dig y.natAbs) f < topD (dig x.natAbs) e
        · rw [if_pos ht1] at hQn
          by_cases hs : 0 < cmpZ x
          · have : cmpZ x = 1 := by omega
            rw [this] at hQn
            simpa (disch := omega) [ht1, hs] using hQn
          · have : cmpZ x = -1 := by omega
            rw [this] at hQn
            simpa (disch := omega) [ht1, hs] using hQn
        · rw [if_neg ht1, if_pos (by omega)] at hQn
          by_cases hs : 0 < cmpZ x
          · have : cmpZ x = 1 := by omega
            rw [this] at hQn
            simpa (disch := omega) [ht1, hs] using hQn
          · have : cmpZ x = -1 := by omega
            rw [this] at hQn
            simpa (disch := omega) [ht1, hs] using hQn
  · have hc' : (cmpZ x != cmpZ y) = true := by simpa using hc
    simp (disch := omega) [hc']
    refine CallK.of (by simp) (RefSignD_call hn x e ia (hx.mono (by omega)) ?_)
    simp (disch := omega) []
    refine CallK.of (by simp) (RefSignD_call hn y f ib (hy.mono (by omega)) ?_)
    have hw : IntKind.i64.wrap (cmpZ x - cmpZ y) = cmpZ x - cmpZ y := wrap_i64_is rfl (by omega)
    by_cases hlt : cmpZ x < cmpZ y
    · rw [if_pos hlt] at hQn
      have m1 : maxV (.int .i64 (-1)) (.int .i64 (cmpZ x - cmpZ y)) = some (.int .i64 (-1)) := by
        simp only [maxV]; congr 2; split <;> omega
      have m2 : minV (.int .i64 1) (.int .i64 (-1)) = some (.int .i64 (-1)) := rfl
      simpa (disch := omega) [-wrap_i64_at, hw, m1, m2] using hQn
    · rw [if_neg hlt, if_pos (by omega)] at hQn
      have m1 : maxV (.int .i64 (-1)) (.int .i64 (cmpZ x - cmpZ y)) = some (.int .i64 (cmpZ x - cmpZ y)) := by
        simp only [maxV]; congr 2; split <;> omega
      have m2 : minV (.int .i64 1) (.int .i64 (cmpZ x - cmpZ y)) = some (.int .i64 1) := by
        rw [minV_int]; congr 2; split <;> omega
      simpa (disch := omega) [-wrap_i64_at, hw, m1, m2] using hQn
end Go.Proofs.YtaankihkejodgaaDoor
