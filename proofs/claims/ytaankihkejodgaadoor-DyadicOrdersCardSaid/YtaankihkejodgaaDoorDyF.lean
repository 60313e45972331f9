/- What the functions of layer 2 do, by value: two numbers with one power, sums. -/
import Derived.Test.YtaankihkejodgaaDoorDyE
import Derived.Test.YtaankihkejodgaaDoorDlB
set_option linter.unusedVariables false
set_option linter.unusedSimpArgs false
namespace Go.Proofs.YtaankihkejodgaaDoor
open Go.Proofs

def levIs (x y e f : Int) (xn : Bool) (xl : List Nat) (yn : Bool) (yl : List Nat) (E err : Int) : Prop :=
  xl.length ≤ 512 ∧ yl.length ≤ 512 ∧ (if wideD x y e f then err = 2 else err = 0 ∧ E = lowE x y e f ∧ xn = decide (lev x e E < 0) ∧ xl = dig (lev x e E).natAbs ∧ yn = decide (lev y f E < 0) ∧ yl = dig (lev y f E).natAbs)
theorem lowE_swap {x y e f : Int} (h1 : x = 0 → e = 0) (h2 : y = 0 → f = 0) : lowE y x f e = lowE x y e f := by
  unfold lowE
  by_cases hx : x = 0 <;> by_cases hy : y = 0 <;> simp [hx, hy, h1, h2] <;> omega
theorem levIs_swap {x y e f : Int} (h1 : x = 0 → e = 0) (h2 : y = 0 → f = 0) {xn yn : Bool} {xl yl : List Nat} {E err : Int} (h : levIs y x f e yn yl xn xl E err) : levIs x y e f xn xl yn yl E err := by
  obtain ⟨a, b, c⟩ := h
  refine ⟨b, a, ?_⟩
  have : wideD x y e f = wideD y x f e := by unfold wideD; rw [lowE_swap h1 h2, Bool.or_comm]
  rw [this]
  split
  · rename_i hw; rw [if_pos hw] at c; exact c
  · rename_i hw
    rw [if_neg hw, lowE_swap h1 h2] at c
    obtain ⟨c1, c2, c3, c4, c5, c6⟩ := c
    exact ⟨c1, c2, c5, c6, c3, c4⟩

theorem level_ge {n : Nat} (hn : 0 < n) (x y e f : Int) (ia ib : Sid) (hx : sz x 255) (hy : sz y 255) (h1 : x = 0 → e = 0) (h2 : y = 0 → f = 0) (he : -16384 ≤ e ∧ e ≤ 16384) (hf : -16384 ≤ f ∧ f ≤ 16384) (hef : f ≤ e) {Q : PV → Nat → List Nat → Prop}
    (hQ : ∀ (i j : Sid) (n' : Nat) (xn yn : Bool) (xl yl : List Nat) (E err : Int), n ≤ n' → levIs x y e f xn xl yn yl E err → Q (.tup [W xn i xl, W yn j yl, .int .i64 E, .int .i64 err]) n' []) : PCall Tryd.prog 46 [D (decide (x < 0)) ia (dig x.natAbs) e, D (decide (y < 0)) ib (dig y.natAbs) f] n Q := by
  have lx := hx.len
  have ly := hy.len
  have hef' : ¬ e < f := by omega
  refine of46 hn ?_
  by_cases hy0 : y = 0
  · subst hy0
    have hf0 := h2 rfl
    subst hf0
    have hlow : lowE x 0 e 0 = e := by unfold lowE; by_cases h : x = 0 <;> simp [h, h1]
    have hw : wideD x 0 e 0 = false := by unfold wideD; rw [hlow, widE_self hx]; simp [widE]
    have := hQ ia ib n (decide (x < 0)) false (dig x.natAbs) [] e 0 (by omega) ⟨by omega, by simp, by rw [hw]; simp [hlow, lev_self]; simp [lev, dig_zero]⟩
    simp only [W] at this
    simpa (disch := omega) [c46, hef', dig_zero] using this
  · obtain ⟨hdl, hd2⟩ := dig_ne hy0
    by_cases hx0 : x = 0
    · subst hx0
      have he0 := h1 rfl
      subst he0
      have hlow : lowE 0 y 0 f = f := by unfold lowE; simp
      have hw : wideD 0 y 0 f = false := by unfold wideD; rw [hlow, widE_self hy]; simp [widE]
      have := hQ ia ib n false (decide (y < 0)) [] (dig y.natAbs) f 0 (by omega) ⟨by simp, by omega, by rw [hw]; simp [hlow, lev_self]; simp [lev, dig_zero]⟩
      simp only [W] at this
      simpa (disch := omega) [c46, hef', hd2, dig_zero] using this
    · obtain ⟨hxl, hx2⟩ := dig_ne hx0
      have hlow : lowE x y e f = f := by unfold lowE; rw [if_neg hx0, if_neg hy0]; omega
      have hwE : IntKind.i64.wrap (e - f) = e - f := wrap_i64_is rfl (by omega)
      have hr := rightW_Z (x := x) (by omega)
      have hw : wideD x y e f = widE x e f := by unfold wideD; rw [hlow, widE_self hy, Bool.or_false]
      simp (disch := omega) [-wrap_i64_at, c46, hef', hd2, hx2, hwE]
      refine CallK.of (by simp) (Shift_call hn _ ia _ (by omega) (Lim.dig _) (e - f) (by omega) (fun h => by rw [hr] at h; cases h) (fun _ h => ?_) (fun _ hr2 i1 n1 g1 d1 => ?_))
      · have hwt : wideD x y e f = true := by rw [hw]; unfold widE; simp [hx0]; omega
        have := hQ ⟨0, 0, 0⟩ ib n false (decide (y < 0)) [] (dig y.natAbs) f 2 (by omega) ⟨by simp, by omega, by rw [hwt]; simp⟩
        simp only [W] at this
        simpa (disch := omega) [-wrap_i64_at] using this
      · rw [numW_dig]
        obtain ⟨k, hk⟩ : ∃ k : Nat, e - f = k := ⟨(e - f).toNat, by omega⟩
        obtain ⟨z, hz⟩ : ∃ z, z = shZ x (e - f) := ⟨_, rfl⟩
        have hbig := big_shift hx0 k 512
        rw [← hk, ← hz] at hbig
        have hlev : lev x e f = z := by unfold lev; rw [if_neg hx0, hz]
        rw [← hz]
        by_cases hzs : sz z 512
        · have hl := hbig.1 hzs
          have hwf : wideD x y e f = false := by rw [hw]; unfold widE; simp [hx0]; omega
          obtain ⟨q1, q2, q3⟩ := ansIs_Z (ansIs_ans z) hzs.len
          have hzl := hzs.len
          have := hQ i1 ib n1 (decide (z < 0)) (decide (y < 0)) (dig z.natAbs) (dig y.natAbs) f 0 (by omega) ⟨by omega, by omega, by rw [hwf]; simp [hlow, hlev, lev_self]⟩
          rw [q1, q2, q3]
          simp only [W] at this
          simpa (disch := omega) [-wrap_i64_at, g1] using this
        · have hl : ¬ (lenW (dig x.natAbs) + k ≤ 32 * 512) := fun h => hzs (hbig.2 h)
          have hwt : wideD x y e f = true := by rw [hw]; unfold widE; simp [hx0]; omega
          have hbz : big z = true := by
            unfold big
            rw [decide_eq_true_eq]
            rcases Nat.lt_or_ge 512 (dig z.natAbs).length with h | h
            · exact h
            · exact absurd ((sz_dig z).mono h) hzs
          have q1 : ansN z = false := by simp [ansN, hbz]
          have q2 : ansL z = [] := by simp [ansL, hbz]
          have q3 : ansE z = 2 := by simp [ansE, hbz]
          have := hQ i1 ib n1 false (decide (y < 0)) [] (dig y.natAbs) f 2 (by omega) ⟨by simp, by omega, by rw [hwt]; simp⟩
          rw [q1, q2, q3]
          simp only [W] at this
          simpa (disch := omega) [-wrap_i64_at, g1] using this
theorem level_call {n : Nat} (hn : 0 < n) (x y e f : Int) (ia ib : Sid) (hx : sz x 255) (hy : sz y 255) (h1 : x = 0 → e = 0) (h2 : y = 0 → f = 0) (he : -16384 ≤ e ∧ e ≤ 16384) (hf : -16384 ≤ f ∧ f ≤ 16384) {Q : PV → Nat → List Nat → Prop}
    (hQ : ∀ (i j : Sid) (n' : Nat) (xn yn : Bool) (xl yl : List Nat) (E err : Int), n ≤ n' → levIs x y e f xn xl yn yl E err → Q (.tup [W xn i xl, W yn j yl, .int .i64 E, .int .i64 err]) n' []) : PCall Tryd.prog 46 [D (decide (x < 0)) ia (dig x.natAbs) e, D (decide (y < 0)) ib (dig y.natAbs) f] n Q := by
  by_cases hef : e < f
  · refine of46 hn ?_
    simp (disch := omega) [c46, hef]
    refine CallK.of (by simp) (level_ge hn y x f e ib ia hy hx h2 h1 hf he (by omega) fun i j n1 xn yn xl yl E err g1 hl => ?_)
    have := hQ j i n1 yn xn yl xl E err g1 (levIs_swap h1 h2 hl)
    simp only [W] at this
    simpa (disch := omega) [g1] using this
  · exact level_ge hn x y e f ia ib hx hy h1 h2 he hf (by omega) hQ

/-- Why there is no sum. -/
def sumG (na nb : Bool) (a b : List Nat) (e f : Int) : Int := if rightD na a e && rightD nb b f then (if wideD (numW na a) (numW nb b) e f then 2 else 0) else 1
theorem AddD_Z {n : Nat} (hn : 0 < n) (x y e f : Int) (ia ib : Sid) (hx : sz x 255) (hy : sz y 255) (hx2 : rightD (decide (x < 0)) (dig x.natAbs) e = true) (hy2 : rightD (decide (y < 0)) (dig y.natAbs) f = true) (h1 : x = 0 → e = 0) (h2 : y = 0 → f = 0) {Q : PV → Nat → List Nat → Prop}
    (hQ : ∀ (i' : Sid) (n' : Nat) (an : Bool) (al : List Nat) (ae err : Int), n ≤ n' → newSid n n' i' → ansD (if wideD x y e f then 2 else 0) (sumZ x y e f) (lowE x y e f) an al ae err → Q (.tup [D an i' al ae, .int .i64 err]) n' []) : PCall Tryd.prog 24 [D (decide (x < 0)) ia (dig x.natAbs) e, D (decide (y < 0)) ib (dig y.natAbs) f] n Q := by
  have lx := hx.len
  have ly := hy.len
  have he := rightD_E hx2
  have hf := rightD_E hy2
  refine of24 hn ?_
  simp (disch := omega) [c24]
  refine CallK.of (by simp) (TwoD_call hn _ _ ia ib _ _ e f (by omega) (by omega) (Lim.dig _) (Lim.dig _) ?_)
  rw [hx2, hy2]
  simp (disch := omega) []
  refine CallK.of (by simp) (level_call hn x y e f ia ib hx hy h1 h2 he hf fun i j n1 xn yn xl yl E err g1 hl => ?_)
  obtain ⟨l1, l2, hl⟩ := hl
  by_cases hw : wideD x y e f = true
  · rw [if_pos hw] at hl
    subst hl
    have := hQ ⟨0, 0, 0⟩ n1 false [] 0 2 g1 (.inl rfl) (by rw [if_pos hw]; simp [ansD])
    simpa (disch := omega) [g1] using this
  · rw [if_neg hw] at hl
    obtain ⟨rfl, hE, rfl, rfl, rfl, rfl⟩ := hl
    rw [Bool.not_eq_true] at hw
    have sz1 := sumZ_sz hx hy h1 h2 hw
    have hsum : lev x e E + lev y f E = sumZ x y e f := by unfold sumZ; rw [hE]
    obtain ⟨z, hz⟩ : ∃ z, z = sumZ x y e f := ⟨_, rfl⟩
    rw [← hz] at sz1 hsum
    have hEb : -16384 ≤ E ∧ E ≤ 16384 := by rw [hE]; unfold lowE; split <;> (try split) <;> omega
    simp (disch := omega) [g1]
    refine CallK.of (by simp) (Add_any (by omega) _ _ i j _ _ (by omega) (by omega) (Lim.dig _) (Lim.dig _) fun i2 n2 an al er g2 d2 ha => ?_)
    rw [rightW_Z l1, rightW_Z l2, numW_dig, numW_dig, hsum] at ha
    obtain ⟨rfl, rfl, rfl⟩ := ansIs_Z ha sz1.len
    simp (disch := omega) [g1, g2]
    refine CallK.of (by simp) (dyof_call (by omega) z E i2 sz1 (by omega) fun i3 n3 g3 d3 => ?_)
    have := fun j hj an al ae err => hQ j n3 an al ae err (by omega) hj
    rw [hw, ← hz, ← hE] at this
    have hd3 : newSid n n3 i3 := by rcases d3 with h | h; exact .inl h; exact .inr ⟨by omega, by omega⟩
    cases hok : dyOk z E
    · have := this ⟨0, 0, 0⟩ (.inl rfl) false [] 0 2 (by simp [ansD, hok])
      simpa (disch := omega) [g1, g2, g3] using ⟨by omega, this⟩
    · have := this i3 hd3 (decide (dyM z < 0)) (dig (dyM z).natAbs) (dyE z E) 0 (by simp [ansD, hok])
      simpa (disch := omega) [g1, g2, g3] using ⟨by omega, this⟩
theorem AddD_bad {n : Nat} (hn : 0 < n) (na nb : Bool) (ia ib : Sid) (a b : List Nat) (e f : Int) (ha : a.length < 35184372088800) (hb : b.length < 35184372088800) (la : Lim a) (lb : Lim b) (h : (rightD na a e && rightD nb b f) = false) {Q : PV → Nat → List Nat → Prop}
    (hQ : Q (.tup [D false ⟨0, 0, 0⟩ [] 0, .int .i64 1]) n []) : PCall Tryd.prog 24 [D na ia a e, D nb ib b f] n Q := by
  refine of24 hn ?_
  simp (disch := omega) [c24]
  refine CallK.of (by simp) (TwoD_call hn na nb ia ib a b e f ha hb la lb ?_)
  rw [h]
  simpa using hQ
end Go.Proofs.YtaankihkejodgaaDoor
