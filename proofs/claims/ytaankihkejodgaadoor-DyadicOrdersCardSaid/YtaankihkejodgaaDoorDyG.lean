/- What the functions of layer 2 do, by value: differences, the reference's sums. -/
import Derived.Test.YtaankihkejodgaaDoorDyF
set_option linter.unusedVariables false
set_option linter.unusedSimpArgs false
namespace Go.Proofs.YtaankihkejodgaaDoor
open Go.Proofs

theorem minusD_call {n : Nat} (hn : 0 < n) (y f : Int) (ib : Sid) (hy : sz y 512) {Q : PV → Nat → List Nat → Prop}
    (hQ : Q (D (decide (-y < 0)) ib (dig (-y).natAbs) f) n []) : PCall Tryd.prog 48 [D (decide (y < 0)) ib (dig y.natAbs) f] n Q := by
  rw [Int.natAbs_neg] at hQ
  refine of48 hn ?_
  by_cases h0 : y = 0
  · subst h0
    simp [dig_zero] at hQ
    simpa (disch := omega) [c48, dig_zero] using hQ
  · obtain ⟨hdl, hd2⟩ := dig_ne h0
    by_cases hs : y < 0
    · have h2 : ¬ -y < 0 := by omega
      simp [h2] at hQ
      have h3 : ¬ 0 < y := by omega
      simp [h3] at hQ
      simpa (disch := omega) [c48, hs] using hQ
    · have h2 : 0 < y := by omega
      simp [h2] at hQ
      simpa (disch := omega) [c48, hs, hdl] using hQ
theorem rightD_neg {y f : Int} (h : rightD (decide (y < 0)) (dig y.natAbs) f = true) : rightD (decide (-y < 0)) (dig (-y).natAbs) f = true := by
  have hh := h
  unfold rightD at h ⊢
  rw [Bool.and_eq_true] at h ⊢
  have hl := (rightW_top h.1).2.1
  rw [Int.natAbs_neg] at *
  refine ⟨?_, h.2⟩
  have := rightW_Z (x := -y) (by rw [Int.natAbs_neg]; exact hl)
  rwa [Int.natAbs_neg] at this
theorem lowE_neg (x y e f : Int) : lowE x (-y) e f = lowE x y e f := by
  unfold lowE
  by_cases h : y = 0
  · subst h; rfl
  · rw [if_neg (show ¬ -y = 0 by omega), if_neg h]
theorem wideD_neg (x y e f : Int) : wideD x (-y) e f = wideD x y e f := by
  unfold wideD widE
  rw [lowE_neg, Int.natAbs_neg]
  congr 2
  simp
theorem sz_neg {y : Int} {k : Nat} (h : sz y k) : sz (-y) k := by unfold sz at *; rwa [Int.natAbs_neg]

theorem SubD_Z {n : Nat} (hn : 0 < n) (x y e f : Int) (ia ib : Sid) (hx : sz x 255) (hy : sz y 255) (hx2 : rightD (decide (x < 0)) (dig x.natAbs) e = true) (hy2 : rightD (decide (y < 0)) (dig y.natAbs) f = true) (h1 : x = 0 → e = 0) (h2 : y = 0 → f = 0) {Q : PV → Nat → List Nat → Prop}
    (hQ : ∀ (i' : Sid) (n' : Nat) (an : Bool) (al : List Nat) (ae err : Int), n ≤ n' → newSid n n' i' → ansD (if wideD x y e f then 2 else 0) (sumZ x (-y) e f) (lowE x y e f) an al ae err → Q (.tup [D an i' al ae, .int .i64 err]) n' []) : PCall Tryd.prog 25 [D (decide (x < 0)) ia (dig x.natAbs) e, D (decide (y < 0)) ib (dig y.natAbs) f] n Q := by
  have lx := hx.len
  have ly := hy.len
  refine of25 hn ?_
  simp (disch := omega) [c25]
  refine CallK.of (by simp) (TwoD_call hn _ _ ia ib _ _ e f (by omega) (by omega) (Lim.dig _) (Lim.dig _) ?_)
  rw [hx2, hy2]
  simp (disch := omega) []
  refine CallK.of (by simp) (minusD_call hn y f ib (hy.mono (by omega)) ?_)
  have hw := wideD_neg x y e f
  have hlow := lowE_neg x y e f
  have hr := rightD_neg hy2
  obtain ⟨y', hy'⟩ : ∃ y', y' = -y := ⟨_, rfl⟩
  rw [← hy'] at hw hlow hr hQ ⊢
  simp (disch := omega) []
  refine CallK.of (by simp) (AddD_Z hn x y' e f ia ib hx (by rw [hy']; exact sz_neg hy) hx2 hr h1 (fun h => h2 (by omega)) fun i n1 an al ae err g1 d1 ha => ?_)
  rw [hw, hlow] at ha
  have := hQ i n1 an al ae err g1 d1 ha
  simpa (disch := omega) [g1] using this
theorem SubD_bad {n : Nat} (hn : 0 < n) (na nb : Bool) (ia ib : Sid) (a b : List Nat) (e f : Int) (ha : a.length < 35184372088800) (hb : b.length < 35184372088800) (la : Lim a) (lb : Lim b) (h : (rightD na a e && rightD nb b f) = false) {Q : PV → Nat → List Nat → Prop}
    (hQ : Q (.tup [D false ⟨0, 0, 0⟩ [] 0, .int .i64 1]) n []) : PCall Tryd.prog 25 [D na ia a e, D nb ib b f] n Q := by
  refine of25 hn ?_
  simp (disch := omega) [c25]
  refine CallK.of (by simp) (TwoD_call hn na nb ia ib a b e f ha hb la lb ?_)
  rw [h]
  simpa using hQ

theorem Low_call {n : Nat} (hn : 0 < n) (x y e f : Int) (ia ib : Sid) (hx : sz x 512) (hy : sz y 512) {Q : PV → Nat → List Nat → Prop}
    (hQ : Q (.int .i64 (lowE x y e f)) n []) : PCall Tryd.prog 49 [D (decide (x < 0)) ia (dig x.natAbs) e, D (decide (y < 0)) ib (dig y.natAbs) f] n Q := by
  have lx := hx.len
  have ly := hy.len
  unfold lowE at hQ
  refine of49 hn ?_
  by_cases hx0 : x = 0
  · subst hx0
    simp at hQ
    simpa (disch := omega) [c49, dig_zero] using hQ
  · obtain ⟨hxl, hx2⟩ := dig_ne hx0
    rw [if_neg hx0] at hQ
    by_cases hy0 : y = 0
    · subst hy0
      simp at hQ
      simpa (disch := omega) [c49, hx2, dig_zero] using hQ
    · obtain ⟨hyl, hy2⟩ := dig_ne hy0
      rw [if_neg hy0] at hQ
      have hm : minV (.int .i64 e) (.int .i64 f) = some (.int .i64 (min e f)) := by
        rw [minV_int]; congr 2; split <;> omega
      simpa (disch := omega) [c49, hx2, hy2, hm] using hQ
theorem wide_call {n : Nat} (hn : 0 < n) (x e E : Int) (ia : Sid) (hx : sz x 512) (he : -100000 ≤ e ∧ e ≤ 100000) (hE : -100000 ≤ E ∧ E ≤ 100000) {Q : PV → Nat → List Nat → Prop}
    (hQ : Q (.bool (widE x e E)) n []) : PCall Tryd.prog 50 [D (decide (x < 0)) ia (dig x.natAbs) e, .int .i64 E] n Q := by
  have lx := hx.len
  have hls := lenW_small hx
  unfold widE at hQ
  refine of50 hn ?_
  by_cases hx0 : x = 0
  · subst hx0
    simp at hQ
    simpa (disch := omega) [c50, dig_zero] using hQ
  · obtain ⟨hxl, hx2⟩ := dig_ne hx0
    simp [hx0] at hQ
    have hw1 : IntKind.i64.wrap (e - E) = e - E := wrap_i64_is rfl (by omega)
    by_cases h1 : 16384 < e - E
    · simp [h1] at hQ
      simpa (disch := omega) [-wrap_i64_at, c50, hxl, hw1, h1] using hQ
    · simp [h1] at hQ
      simp (disch := omega) [-wrap_i64_at, c50, hxl, hw1, h1]
      refine CallK.of (by simp) (RefLen_call hn _ ia _ (by omega) (Lim.dig _) ?_)
      have hw2 : IntKind.i64.wrap ((lenW (dig x.natAbs) : Int) + e) = (lenW (dig x.natAbs) : Int) + e := wrap_i64_is rfl (by omega)
      have hw3 : IntKind.i64.wrap ((lenW (dig x.natAbs) : Int) + e - E) = (lenW (dig x.natAbs) : Int) + e - E := wrap_i64_is rfl (by omega)
      simpa (disch := omega) [-wrap_i64_at, hw2, hw3] using hQ
theorem Wide_call {n : Nat} (hn : 0 < n) (x y e f : Int) (ia ib : Sid) (hx : sz x 512) (hy : sz y 512) (he : -16384 ≤ e ∧ e ≤ 16384) (hf : -16384 ≤ f ∧ f ≤ 16384) {Q : PV → Nat → List Nat → Prop}
    (hQ : Q (.bool (wideD x y e f)) n []) : PCall Tryd.prog 26 [D (decide (x < 0)) ia (dig x.natAbs) e, D (decide (y < 0)) ib (dig y.natAbs) f] n Q := by
  unfold wideD at hQ
  have hE : -16384 ≤ lowE x y e f ∧ lowE x y e f ≤ 16384 := by unfold lowE; split <;> (try split) <;> omega
  refine of26 hn ?_
  simp (disch := omega) [c26]
  refine CallK.of (by simp) (Low_call hn x y e f ia ib hx hy ?_)
  simp (disch := omega) []
  refine CallK.of (by simp) (wide_call hn x e _ ia hx (by omega) (by omega) ?_)
  cases h : widE x e (lowE x y e f)
  · rw [h, Bool.false_or] at hQ
    simp (disch := omega) []
    refine CallK.of (by simp) (wide_call hn y f _ ib hy (by omega) (by omega) ?_)
    simpa using hQ
  · rw [h, Bool.true_or] at hQ
    simpa using hQ
theorem Level_call {n : Nat} (hn : 0 < n) (x e E : Int) (ia : Sid) (hia : ia.f < n) (hx : sz x 512) (he : x ≠ 0 → -16384 ≤ e - E ∧ e - E ≤ 16384) (hb : -100000 ≤ e ∧ e ≤ 100000 ∧ -100000 ≤ E ∧ E ≤ 100000) {Q : PV → Nat → List Nat → Prop}
    (hQ : ∀ (i : Sid) (n' : Nat), n ≤ n' → Q (W (decide (lev x e E < 0)) i (dig (lev x e E).natAbs)) n' []) : PCall Tryd.prog 52 [D (decide (x < 0)) ia (dig x.natAbs) e, .int .i64 E] n Q := by
  have lx := hx.len
  unfold lev at hQ
  refine of52 hn ?_
  by_cases hx0 : x = 0
  · subst hx0
    have := hQ ia n (by omega)
    simp [dig_zero, W] at this
    simpa (disch := omega) [c52, dig_zero] using this
  · obtain ⟨hxl, hx2⟩ := dig_ne hx0
    simp only [if_neg hx0, W] at hQ
    have hw1 : IntKind.i64.wrap (e - E) = e - E := wrap_i64_is rfl (by omega)
    simp (disch := omega) [-wrap_i64_at, c52, hx2, hw1]
    refine CallK.of (by simp) (RefShift_call hn x ia hia hx (e - E) (he hx0) _ rfl fun i n1 g1 => ?_)
    have := hQ i n1 g1
    simpa (disch := omega) [-wrap_i64_at, g1] using this
theorem RefAddD_call {n : Nat} (hn : 0 < n) (x y e f : Int) (ia ib : Sid) (hia : ia.f < n) (hib : ib.f < n) (hx : sz x 255) (hy : sz y 255) (h1 : x = 0 → e = 0) (h2 : y = 0 → f = 0) (he : -16384 ≤ e ∧ e ≤ 16384) (hf : -16384 ≤ f ∧ f ≤ 16384) (hw : wideD x y e f = false) {Q : PV → Nat → List Nat → Prop}
    (hQ : ∀ (i' : Sid) (n' : Nat), n ≤ n' → Q (D (decide (dyM (sumZ x y e f) < 0)) i' (dig (dyM (sumZ x y e f)).natAbs) (if sumZ x y e f = 0 then 0 else lowE x y e f + tz (sumZ x y e f).natAbs)) n' []) : PCall Tryd.prog 27 [D (decide (x < 0)) ia (dig x.natAbs) e, D (decide (y < 0)) ib (dig y.natAbs) f] n Q := by
  have sz1 := sumZ_sz hx hy h1 h2 hw
  obtain ⟨q1, q2, q3⟩ := lowE_le h1 h2
  have hw' := hw
  unfold wideD at hw'
  rw [Bool.or_eq_false_iff] at hw'
  obtain ⟨E, hE⟩ : ∃ E, E = lowE x y e f := ⟨_, rfl⟩
  obtain ⟨z, hz⟩ : ∃ z, z = sumZ x y e f := ⟨_, rfl⟩
  have hsum : lev x e E + lev y f E = z := by rw [hz]; unfold sumZ; rw [hE]
  have hEb : -16384 ≤ E ∧ E ≤ 16384 := by rw [hE]; unfold lowE; split <;> (try split) <;> omega
  rw [← hE] at q1 q2 hw' hQ
  rw [← hz] at hQ sz1
  have hxe : x ≠ 0 → -16384 ≤ e - E ∧ e - E ≤ 16384 := fun h => by
    have := q1 h
    have h3 := hw'.1
    unfold widE at h3
    simp [h] at h3
    omega
  have hyf : y ≠ 0 → -16384 ≤ f - E ∧ f - E ≤ 16384 := fun h => by
    have := q2 h
    have h3 := hw'.2
    unfold widE at h3
    simp [h] at h3
    omega
  have hlx : sz (lev x e E) 512 := by
    by_cases h : x = 0
    · subst h; have : ∀ q, lev 0 q E = 0 := fun q => by simp [lev]
      rw [this]; exact sz_zero 512
    · exact lev_sz (q1 h) hw'.1
  have hly : sz (lev y f E) 512 := by
    by_cases h : y = 0
    · subst h; have : ∀ q, lev 0 q E = 0 := fun q => by simp [lev]
      rw [this]; exact sz_zero 512
    · exact lev_sz (q2 h) hw'.2
  have l1 := hlx.len
  have l2 := hly.len
  refine of27 hn ?_
  simp (disch := omega) [c27]
  refine CallK.of (by simp) (Low_call hn x y e f ia ib (hx.mono (by omega)) (hy.mono (by omega)) ?_)
  rw [← hE]
  simp (disch := omega) []
  refine CallK.of (by simp) (Level_call hn x e E ia hia (hx.mono (by omega)) hxe (by omega) fun i1 n1 g1 => ?_)
  simp (disch := omega) [g1]
  refine CallK.of (by simp) (Level_call (by omega) y f E ib (by omega) (hy.mono (by omega)) hyf (by omega) fun i2 n2 g2 => ?_)
  simp (disch := omega) [g1, g2]
  refine CallK.of (by simp) (refAdd_call (by omega) _ _ i1 i2 _ _ (by omega) (by omega) (Lim.dig _) (Lim.dig _) z (by rw [numW_dig, numW_dig, hsum]) fun i3 n3 g3 d3 => ?_)
  simp (disch := omega) [g1, g2, g3]
  refine CallK.of (by simp) (RefOfD_call (by omega) z E i3 (newSid_lt d3 (by omega)) (sz1.mono (by omega)) (wrap_i64_is rfl (by omega)) fun i4 n4 g4 => ?_)
  rw [wrapE sz1 (by omega)]
  have := hQ i4 n4 (by omega)
  simp only [D] at this
  simpa (disch := omega) [-wrap_i64_at, g1, g2, g3, g4] using ⟨by omega, this⟩
theorem RefNegD_call {n : Nat} (hn : 0 < n) (y f : Int) (ib : Sid) (hib : ib.f < n) (hy : sz y 512) {Q : PV → Nat → List Nat → Prop}
    (hQ : ∀ i', i'.f < n → Q (D (decide (-y < 0)) i' (dig (-y).natAbs) f) n []) : PCall Tryd.prog 53 [D (decide (y < 0)) ib (dig y.natAbs) f] n Q := by
  have ly := hy.len
  obtain ⟨y', hy'⟩ : ∃ y', y' = -y := ⟨_, rfl⟩
  rw [← hy'] at hQ
  refine of53 hn ?_
  simp (disch := omega) [c53]
  refine CallK.of (by simp) (Neg_call hn _ ib _ (by omega) (Lim.dig _) y' (by rw [numW_dig, hy']) fun i' hi' => ?_)
  have hi2 : i'.f < n := by
    rcases hi' with h | h
    · subst h; simpa using hn
    · subst h; exact hib
  have := hQ i' hi2
  simp only [D] at this
  simpa (disch := omega) [] using this
theorem RefSubD_call {n : Nat} (hn : 0 < n) (x y e f : Int) (ia ib : Sid) (hia : ia.f < n) (hib : ib.f < n) (hx : sz x 255) (hy : sz y 255) (h1 : x = 0 → e = 0) (h2 : y = 0 → f = 0) (he : -16384 ≤ e ∧ e ≤ 16384) (hf : -16384 ≤ f ∧ f ≤ 16384) (hw : wideD x y e f = false) {Q : PV → Nat → List Nat → Prop}
    (hQ : ∀ (i' : Sid) (n' : Nat), n ≤ n' → Q (D (decide (dyM (sumZ x (-y) e f) < 0)) i' (dig (dyM (sumZ x (-y) e f)).natAbs) (if sumZ x (-y) e f = 0 then 0 else lowE x y e f + tz (sumZ x (-y) e f).natAbs)) n' []) : PCall Tryd.prog 28 [D (decide (x < 0)) ia (dig x.natAbs) e, D (decide (y < 0)) ib (dig y.natAbs) f] n Q := by
  have hw2 := wideD_neg x y e f
  have hlow := lowE_neg x y e f
  rw [← hlow] at hQ
  rw [hw] at hw2
  have hy2 := sz_neg hy
  refine of28 hn ?_
  simp (disch := omega) [c28]
  refine CallK.of (by simp) (RefNegD_call hn y f ib hib (hy.mono (by omega)) fun i' hi' => ?_)
  have hq0 : -y = 0 → f = 0 := fun h => h2 (by omega)
  generalize -y = y' at *
  simp (disch := omega) []
  refine CallK.of (by simp) (RefAddD_call hn x y' e f ia i' hia hi' hx hy2 h1 hq0 he hf hw2 fun i1 n1 g1 => ?_)
  have := hQ i1 n1 g1
  simp only [D] at this
  simpa (disch := omega) [g1] using this
end Go.Proofs.YtaankihkejodgaaDoor
