/- Is one small beside another: by value. -/
import Derived.Test.YtphndngifjgeoaaDoorCyP
import Derived.Test.YtphndngifjgeoaaDoorCdC
set_option linter.unusedVariables false
set_option linter.unusedSimpArgs false
set_option maxRecDepth 20000
set_option maxHeartbeats 4000000
namespace Go.Proofs.YtphndngifjgeoaaDoor
open Go.Proofs
theorem one_right : rightD false (dig 1) (-4000) = true := by
  have h : sz 1 512 := sz.mono (k := 1) (by unfold sz; decide) (by omega)
  have hok : dyOk 1 (-4000) = true := by unfold dyOk; rw [one_E]; decide
  have := rightD_V h hok
  rw [one_M, one_E] at this
  exact this
theorem MakeOne_call {n : Nat} (hn : 0 < n) (i : Sid) {Q : PV → Nat → List Nat → Prop} (hQ : ∀ (i' : Sid) (n' : Nat), n ≤ n' → newSid n n' i' → Q (.tup [D false i' (dig 1) (-4000), .int .i64 0]) n' []) : PCall Tryd.prog 102 [W false i (dig 1), .int .i64 (-4000)] n Q := by
  have hnum : numW false (dig 1) = 1 := numW_dig 1
  have hl : (dig 1).length ≤ 512 := by rw [one_d]; decide
  have hr : rightW false (dig 1) = true := rightW_Z (x := 1) hl
  have hok : dyOk 1 (-4000) = true := by unfold dyOk; rw [one_E]; decide
  refine Make_call hn false i (dig 1) (by omega) (Lim.dig 1) (-4000) (fun h => by rw [hr] at h; cases h) (fun _ h => by omega) (fun _ _ i' n' g d => ?_)
  rw [hnum, hok, if_pos rfl, one_M, one_E]
  exact hQ i' n' g d
theorem CompareOne_call {n : Nat} (hn : 0 < n) (x e : Int) (ia ib : Sid) (hx : sz x 512) (hx2 : rightD (decide (x < 0)) (dig x.natAbs) e = true) (h1 : x = 0 → e = 0) {Q : PV → Nat → List Nat → Prop}
    (hQ : ∀ n', n ≤ n' → Q (.tup [.int .i64 (cmpZ (x * pw e - pw (-4000))), .int .i64 0]) n' []) : PCall Tryd.prog 104 [D (decide (x < 0)) ia (dig x.natAbs) e, D false ib (dig 1) (-4000)] n Q := by
  have h : sz 1 512 := sz.mono (k := 1) (by unfold sz; decide) (by omega)
  have he := rightD_E hx2
  refine CompareD_W hn x 1 e (-4000) ia ib hx h hx2 one_right h1 (fun h => by cases h) fun n' g => ?_
  rw [ord_pw h1 (fun h => by cases h) (by omega) (by omega), Int.one_mul]
  exact hQ n' g
theorem AddOne_call {n : Nat} (hn : 0 < n) (y f : Int) (ia ib : Sid) (hy : sz y 60) (hy2 : rightD (decide (y < 0)) (dig y.natAbs) f = true) (h1 : y = 0 → f = 0) {Q : PV → Nat → List Nat → Prop}
    (hE : ¬ (wideD y 1 f (-4000) = false ∧ dyOk (sumZ y 1 f (-4000)) (lowE y 1 f (-4000)) = true) → ∀ (i' : Sid) (n' : Nat), n ≤ n' → newSid n n' i' → Q (.tup [D false i' [] 0, .int .i64 2]) n' [])
    (hQ : wideD y 1 f (-4000) = false → dyOk (sumZ y 1 f (-4000)) (lowE y 1 f (-4000)) = true → sz (sumZ y 1 f (-4000)) 512 → ∀ (i' : Sid) (n' : Nat), n ≤ n' → newSid n n' i' → Q (.tup [D (decide (dyM (sumZ y 1 f (-4000)) < 0)) i' (dig (dyM (sumZ y 1 f (-4000))).natAbs) (dyE (sumZ y 1 f (-4000)) (lowE y 1 f (-4000))), .int .i64 0]) n' []) : PCall Tryd.prog 90 [D (decide (y < 0)) ia (dig y.natAbs) f, D false ib (dig 1) (-4000)] n Q := by
  have h : sz 1 1 := by unfold sz; decide
  have hss : wideD y 1 f (-4000) = false → sz (sumZ y 1 f (-4000)) 512 := fun hw => sumZ_sz (hy.mono (by omega)) (h.mono (by omega)) h1 (fun h => by cases h) hw
  refine AddD_Z hn y 1 f (-4000) ia ib (hy.mono (by omega)) (h.mono (by omega)) hy2 one_right h1 (fun h => by cases h) hss fun i' n' an al ae err g d ha => ?_
  unfold ansD at ha
  obtain ⟨w, hw⟩ : ∃ w, w = wideD y 1 f (-4000) := ⟨_, rfl⟩
  obtain ⟨ok, hok⟩ : ∃ w, w = dyOk (sumZ y 1 f (-4000)) (lowE y 1 f (-4000)) := ⟨_, rfl⟩
  rw [← hw] at ha hE hQ hss
  rw [← hok] at ha hE hQ
  cases w
  · cases ok
    · simp at ha
      obtain ⟨rfl, rfl, rfl, rfl⟩ := ha
      exact hE (by simp) i' n' g d
    · simp at ha
      obtain ⟨rfl, rfl, rfl, rfl⟩ := ha
      exact hQ rfl rfl (hss rfl) i' n' g d
  · simp at ha
    obtain ⟨rfl, rfl, rfl, rfl⟩ := ha
    exact hE (by simp) i' n' g d
theorem one_fits {y f : Int} (hy : sz y 60) (h0 : y ≠ 0) (hf : -9400 ≤ f ∧ f ≤ 9000) : wideD y 1 f (-4000) = false ∧ (sz (sumZ y 1 f (-4000)) 512 → dyOk (sumZ y 1 f (-4000)) (lowE y 1 f (-4000)) = true) := by
  have hl : lenW (dig y.natAbs) ≤ 32 * 60 := lenW_small hy
  have h : sz 1 1 := by unfold sz; decide
  have hl1 : lenW (dig (1 : Int).natAbs) ≤ 32 * 1 := lenW_small h
  have hlow : lowE y 1 f (-4000) = min f (-4000) := by unfold lowE; rw [if_neg h0, if_neg (by decide)]
  constructor
  · unfold wideD widE
    rw [hlow]
    obtain ⟨a, ha⟩ : ∃ a, a = lenW (dig y.natAbs) := ⟨_, rfl⟩
    obtain ⟨b, hb⟩ : ∃ b, b = lenW (dig (1 : Int).natAbs) := ⟨_, rfl⟩
    rw [← ha] at hl ⊢
    rw [← hb] at hl1 ⊢
    rw [show decide (16384 < f - min f (-4000)) = false by simp; omega, show decide (16384 < (a : Int) + f - min f (-4000)) = false by simp; omega, show decide (16384 < -4000 - min f (-4000)) = false by simp; omega, show decide (16384 < (b : Int) + -4000 - min f (-4000)) = false by simp; omega]
    simp
  · intro hs
    unfold dyOk
    by_cases hz : sumZ y 1 f (-4000) = 0
    · simp [hz]
    · obtain ⟨a, b⟩ := dyE_le (L := lowE y 1 f (-4000)) hz hs
      generalize dyE (sumZ y 1 f (-4000)) (lowE y 1 f (-4000)) = E at *
      rw [hlow] at a b
      simp [hz]; omega
theorem leq_cmp (a b : Int) : decide (cmpZ (a - b) ≤ 0) = decide (a ≤ b) := by
  have := cmpZ_cases (a - b)
  by_cases h : a ≤ b
  · simp [h]; omega
  · simp [h]; omega
theorem within_call {n : Nat} (hn : 0 < n) (x y ex ey K : Int) (ia ib : Sid) (hx : sz x 60) (hy : sz y 60) (hx2 : rightD (decide (x < 0)) (dig x.natAbs) ex = true) (hy2 : rightD (decide (y < 0)) (dig y.natAbs) ey = true) (h1 : x = 0 → ex = 0) (h2 : y = 0 → ey = 0) (hx0 : 0 ≤ x) (hy0 : 0 ≤ y) (hyM : dyM y = y) (hyt : y ≠ 0 → tz y.natAbs = 0) (hK : 0 ≤ K ∧ K ≤ 200) {Q : PV → Nat → List Nat → Prop}
    (hQ : ∀ (b : Bool) (n' : Nat), n ≤ n' → ((-9000 ≤ ey ∧ ey ≤ 9000) → (b = true ↔ wT x ex y ey K)) → Q (.bool b) n' []) : PCall Tryd.prog 61 [D (decide (x < 0)) ia (dig x.natAbs) ex, D (decide (y < 0)) ib (dig y.natAbs) ey, .int .i64 K] n Q := by
  have lx := hx.len
  have ly := hy.len
  have he := rightD_E hx2
  have hf := rightD_E hy2
  refine of61 hn ?_
  by_cases hx00 : x = 0
  · have hQ1 := hQ true n (Nat.le_refl _) fun hr => ⟨fun _ => wT_small hy0 hx0 (by omega) (.inl hx00), fun _ => rfl⟩
    subst hx00
    simpa (disch := omega) [c61, dig_zero] using hQ1
  have hxp : 0 < x := by omega
  have hxd := (dig_ne hx00).2
  have hxd' : ¬ (dig x.natAbs).length = 0 := fun h => hxd (List.eq_nil_of_length_eq_zero h)
  have hxd2 : (((dig x.natAbs).length : Int) == 0) = false := by simpa using hxd'
  have htx : topD (dig x.natAbs) ex = lenW (dig x.natAbs) + ex := topD_ne hx00
  have hlx : lenW (dig x.natAbs) ≤ 32 * 60 := lenW_small hx
  simp (disch := omega) [c61, hxd, hxd', hxd2]
  refine CallK.of (by simp) (TopD_call hn _ ia _ ex (by omega) (Lim.dig _) (by omega) ?_)
  obtain ⟨tx, htxd⟩ : ∃ t, t = topD (dig x.natAbs) ex := ⟨_, rfl⟩
  rw [← htxd] at htx ⊢
  by_cases ht1 : tx ≤ -4000
  · have hQ1 := hQ true n (Nat.le_refl _) fun hr => ⟨fun _ => wT_small hy0 hx0 (by omega) (.inr (by rw [← htxd]; exact ht1)), fun _ => rfl⟩
    simpa (disch := omega) [ht1] using hQ1
  simp (disch := omega) [ht1]
  refine CallK.of (by simp) (TopD_call hn _ ia _ ex (by omega) (Lim.dig _) (by omega) ?_)
  rw [← htxd]
  simp (disch := omega) []
  refine CallK.of (by simp) (TopD_call hn _ ib _ ey (by omega) (Lim.dig _) (by omega) ?_)
  obtain ⟨ty, htyd⟩ : ∃ t, t = topD (dig y.natAbs) ey := ⟨_, rfl⟩
  rw [← htyd]
  have hty : -20000 ≤ ty ∧ ty ≤ 20000 := by
    have hly : lenW (dig y.natAbs) ≤ 32 * 60 := lenW_small hy
    by_cases h0 : y = 0
    · rw [htyd, h0]; simp [dig_zero, topD]
    · rw [htyd, topD_ne h0]; omega
  by_cases hF : ty - 2 * K + 1 < tx ∧ -3998 < tx
  · obtain ⟨ht2, ht3⟩ := hF
    have hQ1 := hQ false n (Nat.le_refl _) fun hr => ⟨fun h => absurd h (by simp), fun h => absurd h (wT_great hxp hy0 (by omega) hr.1 hK h2 (by rw [← htyd, ← htxd]; exact ht2) (by rw [← htxd]; exact ht3))⟩
    simp (disch := omega) [ht2]
    refine CallK.of (by simp) (TopD_call hn _ ia _ ex (by omega) (Lim.dig _) (by omega) ?_)
    rw [← htxd]
    simpa (disch := omega) [ht3] using hQ1
  have hlim : (y = 0 ∨ ty < -8000) → ∀ n', n ≤ n' → Q (.bool (decide (x * pw ex ≤ pw (-4000)))) n' [] := fun h n' g => hQ _ n' g fun hr => by
    rw [wT_none hxp hx hy0 (by omega) hr.1 hK (by rw [← htxd]; omega) (by rw [← htyd]; exact h)]
    simp
  by_cases ht2 : ty - 2 * K + 1 < tx
  all_goals
    first
    | (simp (disch := omega) [ht2]
       refine CallK.of (by simp) (TopD_call hn _ ia _ ex (by omega) (Lim.dig _) (by omega) ?_)
       rw [← htxd]
       simp (disch := omega) [show ¬ -3998 < tx from fun h => hF ⟨ht2, h⟩])
    | simp (disch := omega) [ht2]
    refine CallK.of (by simp) (Of_call hn 1 (by omega) (by omega) fun i1 n1 g1 d1 => ?_)
    simp (disch := omega) [g1]
    refine CallK.of (by simp) (MakeOne_call (by omega) i1 fun i2 n2 g2 d2 => ?_)
    simp (disch := omega) [g1, g2]
    by_cases hy00 : y = 0
    · have hd0 : dig y.natAbs = [] := by rw [hy00]; simp [dig_zero]
      simp (disch := omega) [g1, g2, hd0]
      refine CallK.of (by simp) (CompareOne_call (by omega) x ex ia i2 (hx.mono (by omega)) hx2 h1 fun n3 g3 => ?_)
      have hQ1 := hlim (.inl hy00) n3 (by omega)
      rw [← leq_cmp] at hQ1
      simpa (disch := omega) [g1, g2, g3] using ⟨by omega, hQ1⟩
    have hyd := (dig_ne hy00).2
    have hyd' : ¬ (dig y.natAbs).length = 0 := fun h => hyd (List.eq_nil_of_length_eq_zero h)
    have hyd2 : (((dig y.natAbs).length : Int) == 0) = false := by simpa using hyd'
    simp (disch := omega) [g1, g2, hyd, hyd', hyd2]
    refine CallK.of (by simp) (TopD_call (by omega) _ ib _ ey (by omega) (Lim.dig _) (by omega) ?_)
    rw [← htyd]
    by_cases ht4 : ty < -8000
    · first
      | (exfalso; omega)
      | (simp (disch := omega) [g1, g2, ht4]
         refine CallK.of (by simp) (CompareOne_call (by omega) x ex ia i2 (hx.mono (by omega)) hx2 h1 fun n3 g3 => ?_)
         have hQ1 := hlim (.inr ht4) n3 (by omega)
         rw [← leq_cmp] at hQ1
         simpa (disch := omega) [g1, g2, g3] using ⟨by omega, hQ1⟩)
    simp (disch := omega) [g1, g2, ht4]
    have hfE : dyE y (ey + -2 * K) = ey - 2 * K := by unfold dyE; rw [if_neg hy00, hyt hy00]; omega
    refine CallK.of (by simp) (ScaleD_Z (by omega) y ey (-2 * K) ib (hy.mono (by omega)) hy2 (by omega) (by omega) fun i3 n3 g3 d3 => ?_)
    rw [hyM, hfE]
    cases hok : dyOk y (ey + -2 * K) with
    | false =>
      rw [if_neg (by simp)]
      simp (disch := omega) [g1, g2, g3]
      refine CallK.of (by simp) (CompareOne_call (by omega) x ex ia i2 (hx.mono (by omega)) hx2 h1 fun n4 g4 => ?_)
      have hQ1 := hQ (decide (cmpZ (x * pw ex - pw (-4000)) ≤ 0)) n4 (by omega) fun hr => by
        exfalso
        unfold dyOk at hok
        rw [hfE] at hok
        simp at hok
        omega
      simpa (disch := omega) [g1, g2, g3, g4] using ⟨by omega, hQ1⟩
    | true =>
      rw [if_pos rfl]
      have hz := rightD_V (hy.mono (by omega)) hok
      rw [hyM, hfE] at hz
      have hzE := rightD_E hz
      simp (disch := omega) [g1, g2, g3]
      refine CallK.of (by simp) (AddOne_call (by omega) y (ey - 2 * K) i3 i2 hy hz (fun h => absurd h hy00) (fun hb i4 n4 g4 d4 => ?_) (fun hw hok2 hss i4 n4 g4 d4 => ?_))
      · simp (disch := omega) [g1, g2, g3, g4]
        refine CallK.of (by simp) (CompareD_W (by omega) x y ex (ey - 2 * K) ia i3 (hx.mono (by omega)) (hy.mono (by omega)) hx2 hz h1 (fun h => absurd h hy00) fun n5 g5 => ?_)
        have hQ1 := hQ (decide (ordD x y ex (ey - 2 * K) ≤ 0)) n5 (by omega) fun hr => by
          exfalso
          obtain ⟨p1, p2⟩ := one_fits hy hy00 (f := ey - 2 * K) (by omega)
          exact hb ⟨p1, p2 (sumZ_sz (hy.mono (by omega)) (sz.mono (k := 1) (by unfold sz; decide) (by omega)) (fun h => absurd h hy00) (fun h => by cases h) p1)⟩
        simpa (disch := omega) [g1, g2, g3, g4, g5] using ⟨by omega, hQ1⟩
      · have hS2 := rightD_V hss hok2
        have hS3 := rightD_E hS2
        have hsp := sum_pw (x := y) (y := 1) (e := ey - 2 * K) (f := -4000) (fun h => absurd h hy00) (fun h => by cases h) (by omega) (by omega)
        have hlow := lowE_ge (x := y) (y := 1) (show -17000 ≤ ey - 2 * K by omega) (show (-17000 : Int) ≤ -4000 by omega)
        obtain ⟨S, hSd⟩ : ∃ S, S = sumZ y 1 (ey - 2 * K) (-4000) := ⟨_, rfl⟩
        obtain ⟨l0, hl0⟩ : ∃ l, l = lowE y 1 (ey - 2 * K) (-4000) := ⟨_, rfl⟩
        rw [← hSd] at hss hsp hS2 hS3 ⊢
        rw [← hl0] at hsp hS2 hS3 hlow ⊢
        have hord : ordD x (dyM S) ex (dyE S l0) = cmpZ (x * pw ex - (y * pw (ey - 2 * K) + pw (-4000))) := by
          rw [ord_pw h1 (fun h => dyE_zero h) (by omega) (by omega), dy_pw hlow, hsp, Int.one_mul]
        simp (disch := omega) [g1, g2, g3, g4]
        refine CallK.of (by simp) (CompareD_W (by omega) x (dyM S) ex (dyE S l0) ia i4 (hx.mono (by omega)) (sz_dyM hss) hx2 hS2 h1 (fun h => dyE_zero h) fun n5 g5 => ?_)
        rw [hord]
        have hQ1 := hQ (decide (cmpZ (x * pw ex - (y * pw (ey - 2 * K) + pw (-4000))) ≤ 0)) n5 (by omega) fun hr => by
          rw [leq_cmp, decide_eq_true_iff]; rfl
        simpa (disch := omega) [g1, g2, g3, g4, g5] using ⟨by omega, hQ1⟩
end Go.Proofs.YtphndngifjgeoaaDoor
