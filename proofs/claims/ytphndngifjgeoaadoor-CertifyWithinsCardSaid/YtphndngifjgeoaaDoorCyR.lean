/- The law of what is small beside another, by value. -/
import Derived.Test.YtphndngifjgeoaaDoorCyQ
set_option linter.unusedVariables false
set_option linter.unusedSimpArgs false
set_option maxRecDepth 20000
set_option maxHeartbeats 4000000
namespace Go.Proofs.YtphndngifjgeoaaDoor
open Go.Proofs
theorem none_fits : wideD 0 1 0 (-4000) = false := by
  have h : sz 1 1 := by unfold sz; decide
  have hl1 : lenW (dig (1 : Int).natAbs) ≤ 32 * 1 := lenW_small h
  have hlow : lowE 0 1 0 (-4000) = -4000 := by unfold lowE; rw [if_pos rfl]
  unfold wideD widE
  rw [hlow]
  obtain ⟨b, hb⟩ : ∃ b, b = lenW (dig (1 : Int).natAbs) := ⟨_, rfl⟩
  rw [← hb] at hl1 ⊢
  rw [show decide (16384 < (b : Int) + -4000 - -4000) = false by simp; omega]
  simp
def wB (x ex y ey K : Int) : Bool := decide (x * pw ex ≤ y * pw (ey - 2 * K) + pw (-4000))
theorem wB_iff (x ex y ey K : Int) : wB x ex y ey K = true ↔ wT x ex y ey K := by unfold wB wT; simp
theorem RefWithin_call {n : Nat} (hn : 0 < n) (x y ex ey K : Int) (ia ib : Sid) (hia : ia.f < n) (hib : ib.f < n) (hx : sz x 60) (hy : sz y 60) (h1 : x = 0 → ex = 0) (h2 : y = 0 → ey = 0) (he : -16384 ≤ ex ∧ ex ≤ 16384) (hf : -9000 ≤ ey ∧ ey ≤ 9000) (hyM : dyM y = y) (hyt : y ≠ 0 → tz y.natAbs = 0) (hK : 0 ≤ K ∧ K ≤ 200) {Q : PV → Nat → List Nat → Prop}
    (hQ : ∀ (n' : Nat), n ≤ n' → Q (.bool (wB x ex y ey K)) n' []) : PCall Tryd.prog 27 [D (decide (x < 0)) ia (dig x.natAbs) ex, D (decide (y < 0)) ib (dig y.natAbs) ey, .int .i64 K] n Q := by
  have hs1 : sz 1 1 := by unfold sz; decide
  obtain ⟨f, hfd⟩ : ∃ f, f = if y = 0 then 0 else ey - 2 * K := ⟨_, rfl⟩
  have hfr : -9400 ≤ f ∧ f ≤ 9000 := by rw [hfd]; split <;> omega
  have hw : wideD y 1 f (-4000) = false := by
    by_cases h0 : y = 0
    · rw [if_pos h0] at hfd; rw [hfd, h0]; exact none_fits
    · exact (one_fits hy h0 hfr).1
  have hss : sz (sumZ y 1 f (-4000)) 512 := sumZ_sz (hy.mono (by omega)) (hs1.mono (by omega)) (fun h => by rw [hfd, if_pos h]) (fun h => by cases h) hw
  have hsp := sum_pw (x := y) (y := 1) (e := f) (f := -4000) (fun h => by rw [hfd, if_pos h]) (fun h => by cases h) (by omega) (by omega)
  have hlow := lowE_ge (x := y) (y := 1) (show -17000 ≤ f by omega) (show (-17000 : Int) ≤ -4000 by omega)
  have hl2 : -9400 ≤ lowE y 1 f (-4000) ∧ lowE y 1 f (-4000) ≤ -4000 := by
    unfold lowE
    split
    · omega
    · rw [if_neg (by decide)]; omega
  have hyf : y * pw f = y * pw (ey - 2 * K) := by
    by_cases h0 : y = 0
    · rw [h0]; simp
    · rw [if_neg h0] at hfd; rw [hfd]
  refine of27 hn ?_
  simp (disch := omega) [c27]
  refine CallK.of (by simp) (RefScaleD2_call hn y ey (-(2 * K)) ib hib (hy.mono (by omega)) (by omega) (by omega) fun i1 n1 g1 b1 => ?_)
  have hff : (if y = 0 then 0 else IntKind.i64.wrap (ey + -(2 * K) + (tz y.natAbs : Nat))) = f := by
    rw [hfd]
    by_cases h0 : y = 0
    · rw [if_pos h0, if_pos h0]
    · rw [if_neg h0, if_neg h0, hyt h0]; exact wrap_i64_is (by omega) (by omega)
  rw [hyM, hff]
  simp (disch := omega) [g1]
  refine CallK.of (by simp) (RefOf_call (by omega) 1 (by omega) (by omega) fun i2 n2 g2 d2 => ?_)
  simp (disch := omega) [g1, g2]
  have hwr : IntKind.i64.wrap (-4000) = -4000 := wrap_i64_is rfl (by omega)
  refine CallK.of (by simp) (RefOfD2_call (by omega) 1 (-4000) i2 (newSid_lt d2 (by omega)) (hs1.mono (by omega)) hwr fun i3 n3 g3 b3 => ?_)
  have h1E : (if (1 : Int) = 0 then 0 else IntKind.i64.wrap (-4000 + (tz (1 : Int).natAbs : Nat))) = -4000 := by
    rw [if_neg (by decide), show tz (1 : Int).natAbs = 0 from tz_odd (by decide)]; exact wrap_i64_is (by omega) (by omega)
  rw [one_M, h1E]
  simp (disch := omega) [g1, g2, g3]
  refine CallK.of (by simp) (RefAddD2_call (by omega) y 1 f (-4000) i1 i3 (by omega) (by omega) (hy.mono (by omega)) (hs1.mono (by omega)) (fun h => by rw [hfd, if_pos h]) (fun h => by cases h) (by omega) (by omega) hw hss fun i4 n4 g4 b4 => ?_)
  obtain ⟨S, hSd⟩ : ∃ S, S = sumZ y 1 f (-4000) := ⟨_, rfl⟩
  obtain ⟨l0, hl0⟩ : ∃ l, l = lowE y 1 f (-4000) := ⟨_, rfl⟩
  rw [← hSd] at hss hsp ⊢
  rw [← hl0] at hsp hlow hl2 ⊢
  have hSE : (if S = 0 then 0 else l0 + (tz S.natAbs : Nat)) = dyE S l0 := by unfold dyE; rfl
  rw [hSE]
  have hEr : -16384 ≤ dyE S l0 ∧ dyE S l0 ≤ 16384 := by
    by_cases h0 : S = 0
    · rw [h0]; simp [dyE]
    · have := dyE_le (L := l0) h0 hss; omega
  have hord : ordD x (dyM S) ex (dyE S l0) = cmpZ (x * pw ex - (y * pw (ey - 2 * K) + pw (-4000))) := by
    rw [ord_pw h1 (fun h => dyE_zero h) (by omega) (by omega), dy_pw hlow, hsp, Int.one_mul, hyf]
  simp (disch := omega) [g1, g2, g3, g4]
  refine CallK.of (by simp) (RefCompareD_W (by omega) x (dyM S) ex (dyE S l0) ia i4 (by omega) (by omega) (hx.mono (by omega)) (sz_dyM hss) h1 (fun h => dyE_zero h) he hEr fun n5 g5 => ?_)
  rw [hord]
  have hQ1 := hQ n5 (by omega)
  unfold wB at hQ1
  rw [← leq_cmp] at hQ1
  simpa (disch := omega) [g1, g2, g3, g4, g5] using ⟨by omega, hQ1⟩
/-- May it be asked? -/
def wG (nx ny : Bool) (lx ly : List Nat) (ex ey K : Int) : Bool := rightD nx lx ex && (rightD ny ly ey && (!nx && (!ny && (decide (0 ≤ K) && decide (K ≤ 200)))))
theorem Within_bad {n : Nat} (hn : 0 < n) (nx ny : Bool) (ix iy : Sid) (lx ly : List Nat) (ex ey K : Int) (hlx : lx.length ≤ 60) (hly : ly.length ≤ 60) (limx : Lim lx) (limy : Lim ly) (h : wG nx ny lx ly ex ey K = false) {Q : PV → Nat → List Nat → Prop}
    (hQ : Q (.tup [.bool false, .int .i64 1]) n []) : PCall Tryd.prog 25 [D nx ix lx ex, D ny iy ly ey, .int .i64 K] n Q := by
  unfold wG at h
  refine of25 hn ?_
  simp (disch := omega) [c25]
  refine CallK.of (by simp) (CheckD_call hn nx ix lx ex (by omega) limx ?_)
  cases r1 : rightD nx lx ex
  · simpa (disch := omega) using hQ
  · rw [r1, Bool.true_and] at h
    simp (disch := omega) []
    refine CallK.of (by simp) (CheckD_call hn ny iy ly ey (by omega) limy ?_)
    cases r2 : rightD ny ly ey
    · simpa (disch := omega) using hQ
    · rw [r2, Bool.true_and] at h
      cases nx
      · cases ny
        · by_cases k1 : K < 0
          · simpa (disch := omega) [k1] using hQ
          · by_cases k2 : 200 < K
            · simpa (disch := omega) [k1, k2] using hQ
            · simp at h; omega
        · simpa (disch := omega) using hQ
      · simpa (disch := omega) using hQ
theorem wG_true {nx ny : Bool} {lx ly : List Nat} {ex ey K : Int} (h : wG nx ny lx ly ex ey K = true) : rightD nx lx ex = true ∧ rightD ny ly ey = true ∧ nx = false ∧ ny = false ∧ 0 ≤ K ∧ K ≤ 200 := by
  unfold wG at h
  simp at h
  exact h
theorem Within_ok {n : Nat} (hn : 0 < n) (x y : Int) (ix iy : Sid) (ex ey K : Int) (hx : sz x 60) (hy : sz y 60) (hx2 : rightD false (dig x.natAbs) ex = true) (hy2 : rightD false (dig y.natAbs) ey = true) (h1 : x = 0 → ex = 0) (h2 : y = 0 → ey = 0) (hx0 : 0 ≤ x) (hy0 : 0 ≤ y) (hyM : dyM y = y) (hyt : y ≠ 0 → tz y.natAbs = 0) (hK : 0 ≤ K ∧ K ≤ 200) {Q : PV → Nat → List Nat → Prop}
    (hQ : ∀ (b : Bool) (n' : Nat), n ≤ n' → ((-9000 ≤ ey ∧ ey ≤ 9000) → (b = true ↔ wT x ex y ey K)) → Q (.tup [.bool b, .int .i64 0]) n' []) : PCall Tryd.prog 25 [D false ix (dig x.natAbs) ex, D false iy (dig y.natAbs) ey, .int .i64 K] n Q := by
  have lx := hx.len
  have ly := hy.len
  have ex1 : decide (x < 0) = false := by simp; omega
  have ey1 : decide (y < 0) = false := by simp; omega
  refine of25 hn ?_
  simp (disch := omega) [c25]
  refine CallK.of (by simp) (CheckD_call hn false ix _ ex (by omega) (Lim.dig _) ?_)
  rw [hx2]
  simp (disch := omega) []
  refine CallK.of (by simp) (CheckD_call hn false iy _ ey (by omega) (Lim.dig _) ?_)
  rw [hy2]
  simp (disch := omega) [show ¬ K < 0 by omega, show ¬ 200 < K by omega]
  have := within_call hn x y ex ey K ix iy hx hy (by rw [ex1]; exact hx2) (by rw [ey1]; exact hy2) h1 h2 hx0 hy0 hyM hyt hK (Q := fun v n' D => D = [] ∧ ∃ b : Bool, v = .bool b ∧ ((-9000 ≤ ey ∧ ey ≤ 9000) → (b = true ↔ wT x ex y ey K)) ∧ n ≤ n') (fun b n' g hb => ⟨rfl, b, rfl, hb, g⟩)
  rw [ex1, ey1] at this
  refine CallK.of (by simp) (this.mono ?_)
  rintro v n' D _ ⟨rfl, b, rfl, hb, g⟩
  simpa (disch := omega) [g] using hQ b n' g hb
theorem Withins_law {n : Nat} (hn : 0 < n) (nx ny : Bool) (ix iy : Sid) (lx ly : List Nat) (ex ey K : Int) (hix : ix.f < n) (hiy : iy.f < n) (hlx : lx.length < 35184372088800) (hly : ly.length < 35184372088800) (limx : Lim lx) (limy : Lim ly) : PCall Tryd.prog 7 [D nx ix lx ex, D ny iy ly ey, .int .i64 K] n (fun v _ D => v = .bool true ∧ D = []) := by
  refine of7 hn ?_
  by_cases h60 : 60 < lx.length
  · simp (disch := omega) [c7, h60]
    refine CallK.of (by simp) (awake_call hn fun n' g => ?_)
    simp (disch := omega) [g]
  by_cases h60' : 60 < ly.length
  · simp (disch := omega) [c7, h60, h60']
    refine CallK.of (by simp) (awake_call hn fun n' g => ?_)
    simp (disch := omega) [g]
  simp (disch := omega) [c7, h60, h60']
  cases hG : wG nx ny lx ly ex ey K with
  | false =>
    refine CallK.of (by simp) (Within_bad hn nx ny ix iy lx ly ex ey K (by omega) (by omega) limx limy hG ?_)
    simp (disch := omega) []
    refine CallK.of (by simp) (RightD_call hn nx ix lx ex hlx limx ?_)
    unfold wG at hG
    cases r1 : rightD nx lx ex
    · simp (disch := omega) []
      refine CallK.of (by simp) (awake_call hn fun n' g => ?_)
      simp (disch := omega) [g]
    · rw [r1, Bool.true_and] at hG
      simp (disch := omega) []
      refine CallK.of (by simp) (RightD_call hn ny iy ly ey hly limy ?_)
      cases r2 : rightD ny ly ey
      · simp (disch := omega) []
        refine CallK.of (by simp) (awake_call hn fun n' g => ?_)
        simp (disch := omega) [g]
      · rw [r2, Bool.true_and] at hG
        cases nx
        · cases ny
          · by_cases k1 : K < 0
            · simp (disch := omega) [k1]
              refine CallK.of (by simp) (awake_call hn fun n' g => ?_)
              simp (disch := omega) [g]
            · by_cases k2 : 200 < K
              · simp (disch := omega) [k1, k2]
                refine CallK.of (by simp) (awake_call hn fun n' g => ?_)
                simp (disch := omega) [g]
              · simp at hG; omega
          · simp (disch := omega) []
            refine CallK.of (by simp) (awake_call hn fun n' g => ?_)
            simp (disch := omega) [g]
        · simp (disch := omega) []
          refine CallK.of (by simp) (awake_call hn fun n' g => ?_)
          simp (disch := omega) [g]
  | true =>
    obtain ⟨r1, r2, rfl, rfl, k1, k2⟩ := wG_true hG
    obtain ⟨x, hxn, hxl, _, he1, he2, hxM, h1, hxt⟩ := rightD_Z r1 limx
    obtain ⟨y, hyn, hyl, _, hf1, hf2, hyM, h2, hyt⟩ := rightD_Z r2 limy
    have hx0 : 0 ≤ x := by simpa using hxn.symm
    have hy0 : 0 ≤ y := by simpa using hyn.symm
    subst hxl hyl
    have hxs : sz x 60 := (sz_dig x).mono (by omega)
    have hys : sz y 60 := (sz_dig y).mono (by omega)
    refine CallK.of (by simp) (Within_ok hn x y ix iy ex ey K hxs hys r1 r2 h1 h2 hx0 hy0 hyM hyt ⟨k1, k2⟩ fun b n1 g1 hb => ?_)
    simp (disch := omega) [g1]
    refine CallK.of (by simp) (RightD_call (by omega) false ix _ ex hlx limx ?_)
    rw [r1]
    simp (disch := omega) [g1]
    refine CallK.of (by simp) (RightD_call (by omega) false iy _ ey hly limy ?_)
    rw [r2]
    simp (disch := omega) [g1, show ¬ K < 0 by omega, show ¬ 200 < K by omega]
    by_cases q1 : ey < -9000
    · simp (disch := omega) [g1, q1]
      refine CallK.of (by simp) (awake_call (by omega) fun n' g => ?_)
      simp (disch := omega) [g, g1]
      omega
    by_cases q2 : 9000 < ey
    · simp (disch := omega) [g1, q1, q2]
      refine CallK.of (by simp) (awake_call (by omega) fun n' g => ?_)
      simp (disch := omega) [g, g1]
      omega
    simp (disch := omega) [g1, q1, q2]
    have hb := hb ⟨by omega, by omega⟩
    rw [← wB_iff] at hb
    have hbb : b = wB x ex y ey K := by cases b <;> cases hw : wB x ex y ey K <;> simp [hw] at hb ⊢
    have ex1 : decide (x < 0) = false := by simp; omega
    have ey1 : decide (y < 0) = false := by simp; omega
    have := RefWithin_call (show 0 < n1 by omega) x y ex ey K ix iy (by omega) (by omega) hxs hys h1 h2 ⟨he1, he2⟩ ⟨by omega, by omega⟩ hyM hyt ⟨k1, k2⟩ (Q := fun v n' D => D = [] ∧ v = .bool (wB x ex y ey K) ∧ n1 ≤ n') (fun n' g => ⟨rfl, rfl, g⟩)
    rw [ex1, ey1] at this
    refine CallK.of (by simp) (this.mono ?_)
    rintro v n2 D _ ⟨rfl, rfl, g2⟩
    simp (disch := omega) [g1, g2, hbb]
    refine CallK.of (by simp) (awake_call (by omega) fun n' g => ?_)
    simp (disch := omega) [g, g1, g2]
    omega
end Go.Proofs.YtphndngifjgeoaaDoor
