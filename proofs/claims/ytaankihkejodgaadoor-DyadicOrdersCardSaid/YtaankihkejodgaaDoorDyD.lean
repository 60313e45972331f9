/- What the functions of layer 2 do, by value: products, tops. -/
import Derived.Test.YtaankihkejodgaaDoorDyC
import Derived.Test.YtaankihkejodgaaDoorCtK
set_option linter.unusedVariables false
set_option linter.unusedSimpArgs false
namespace Go.Proofs.YtaankihkejodgaaDoor
open Go.Proofs

theorem CheckD_call {n : Nat} (hn : 0 < n) (neg : Bool) (i : Sid) (l : List Nat) (e : Int) (hl : l.length < 35184372088800) (ll : Lim l) {Q : PV → Nat → List Nat → Prop} (hQ : Q (.int .i64 (if rightD neg l e then 0 else 1)) n []) : PCall Tryd.prog 14 [D neg i l e] n Q := by
  unfold rightD at hQ
  refine of14 hn ?_
  simp (disch := omega) [c14]
  refine CallK.of (by simp) (Check_call hn neg i l (by omega) ?_)
  by_cases hr : rightW neg l = true
  · simp only [hr] at hQ
    cases l with
    | nil =>
      by_cases he : e = 0
      · subst he
        simpa [hr] using hQ
      · have he' : (e == 0) = false := by simpa using he
        have he'' : (e != 0) = true := by simpa using he
        simp [he] at hQ
        simpa [hr, he, he', he''] using hQ
    | cons x t =>
      have hx := ll.head
      have h1 : (0 : Nat) < (x :: t).length := by simp
      have h0 : ¬ (x :: t) = [] := by simp
      have hb0 : ((t.length : Int) + 1 == 0) = false := by rw [beq_eq_false_iff_ne]; omega
      by_cases ho : x % 2 = 1
      · have h4 : (x : Int).tmod 2 = 1 := by rw [Int.tmod_eq_emod_of_nonneg (by omega)]; omega
        have hoL : oddL (x :: t) = true := by simp [oddL, ho]
        by_cases h2 : e < -16384
        · have h2' : ¬ -16384 ≤ e := by omega
          simp [hoL, h2'] at hQ
          simpa (disch := omega) [hr, h1, h4, h2, hb0] using hQ
        · by_cases h3 : 16384 < e
          · have h3' : ¬ e ≤ 16384 := by omega
            simp [hoL, h3'] at hQ
            simpa (disch := omega) [hr, h1, h4, h2, h3, hb0] using hQ
          · have h2' : -16384 ≤ e := by omega
            have h3' : e ≤ 16384 := by omega
            simp [hoL, h2', h3'] at hQ
            simpa (disch := omega) [hr, h1, h4, h2, h3, hb0] using hQ
      · have h4 : (x : Int).tmod 2 = 0 := by rw [Int.tmod_eq_emod_of_nonneg (by omega)]; omega
        have hoL : oddL (x :: t) = false := by simp [oddL]; omega
        simp [hoL] at hQ
        simpa (disch := omega) [hr, h1, h4, hb0] using hQ
  · rw [Bool.not_eq_true] at hr
    simp [hr] at hQ
    simpa [hr] using hQ

theorem TwoD_call {n : Nat} (hn : 0 < n) (na nb : Bool) (ia ib : Sid) (a b : List Nat) (e f : Int) (ha : a.length < 35184372088800) (hb : b.length < 35184372088800) (la : Lim a) (lb : Lim b) {Q : PV → Nat → List Nat → Prop} (hQ : Q (.bool (rightD na a e && rightD nb b f)) n []) : PCall Tryd.prog 42 [D na ia a e, D nb ib b f] n Q := by
  refine of42 hn ?_
  simp (disch := omega) [c42]
  refine CallK.of (by simp) (CheckD_call hn na ia a e ha la ?_)
  cases h1 : rightD na a e
  · simp [h1] at hQ; simpa using hQ
  · simp
    refine CallK.of (by simp) (CheckD_call hn nb ib b f hb lb ?_)
    cases h2 : rightD nb b f
    · simp [h1, h2] at hQ; simpa using hQ
    · simp [h1, h2] at hQ; simpa using hQ

def topD (l : List Nat) (e : Int) : Int := if l = [] then 0 else lenW l + e
theorem TopD_call {n : Nat} (hn : 0 < n) (neg : Bool) (i : Sid) (l : List Nat) (e : Int) (hl : l.length < 35184372088800) (ll : Lim l) (he : -1000000 ≤ e ∧ e ≤ 1000000) {Q : PV → Nat → List Nat → Prop} (hQ : Q (.int .i64 (topD l e)) n []) : PCall Tryd.prog 16 [D neg i l e] n Q := by
  unfold topD at hQ
  refine of16 hn ?_
  by_cases h0 : l = []
  · subst h0
    simpa [c16] using hQ
  · simp (disch := omega) [c16, h0]
    refine CallK.of (by simp) (Len_call hn neg i l hl ll ?_)
    have hlen : lenW l ≤ 32 * l.length := by
      unfold lenW
      split
      · rename_i h
        have := blen_le (ll.get (i := l.length - 1) (by omega))
        omega
      · omega
    rw [if_neg h0] at hQ
    simpa (disch := omega) [] using hQ
theorem RefTopD_call {n : Nat} (hn : 0 < n) (neg : Bool) (i : Sid) (l : List Nat) (e : Int) (hl : l.length < 35184372088800) (ll : Lim l) (he : -1000000 ≤ e ∧ e ≤ 1000000) {Q : PV → Nat → List Nat → Prop} (hQ : Q (.int .i64 (topD l e)) n []) : PCall Tryd.prog 17 [D neg i l e] n Q := by
  unfold topD at hQ
  refine of17 hn ?_
  by_cases h0 : l = []
  · subst h0
    simpa [c17] using hQ
  · simp (disch := omega) [c17, h0]
    refine CallK.of (by simp) (RefLen_call hn neg i l hl ll ?_)
    have hlen : lenW l ≤ 32 * l.length := by
      unfold lenW
      split
      · rename_i h
        have := blen_le (ll.get (i := l.length - 1) (by omega))
        omega
      · omega
    rw [if_neg h0] at hQ
    simpa (disch := omega) [] using hQ

/-- A right number is what it is worth. -/
theorem rightD_Z {neg : Bool} {l : List Nat} {e : Int} (h : rightD neg l e = true) (ll : Lim l) : ∃ x : Int, neg = decide (x < 0) ∧ l = dig x.natAbs ∧ sz x 512 ∧ -16384 ≤ e ∧ e ≤ 16384 ∧ dyM x = x ∧ (x = 0 → e = 0) ∧ (x ≠ 0 → tz x.natAbs = 0) := by
  unfold rightD at h
  rw [Bool.and_eq_true] at h
  obtain ⟨h1, h2⟩ := h
  obtain ⟨x, rfl, rfl⟩ := right_Z h1 ll
  refine ⟨x, rfl, rfl, (sz_dig x).mono (rightW_top h1).2.1, ?_⟩
  by_cases h0 : x = 0
  · subst h0
    simp [dig_zero] at h2
    subst h2
    simp [dyM]
  · have hne := (dig_ne h0).2
    rw [if_neg hne, odd_dig] at h2
    simp at h2
    have ht := tz_odd h2.1
    exact ⟨h2.2.1, h2.2.2, by simp [dyM, h0, ht, shZ], fun e => absurd e h0, fun _ => ht⟩
theorem dyOk_right {x e : Int} (hx : sz x 512) : rightD (decide (dyM x < 0)) (dig (dyM x).natAbs) (if x = 0 then 0 else e + tz x.natAbs) = dyOk x e := by
  unfold rightD dyOk dyE
  rw [rightW_Z (sz_dyM hx).len]
  by_cases h0 : x = 0
  · subst h0; simp [dyM, dig_zero]
  · obtain ⟨o, h1, h2, h3⟩ := dyM_abs h0
    have hne : ¬ dyM x = 0 := fun e => by rw [e] at h3; simp at h3; omega
    rw [if_neg (dig_ne hne).2, odd_dig, h3, if_neg h0]
    simp [h1, h0]

theorem MulD_bad {n : Nat} (hn : 0 < n) (na nb : Bool) (ia ib : Sid) (a b : List Nat) (e f : Int) (ha : a.length < 35184372088800) (hb : b.length < 35184372088800) (la : Lim a) (lb : Lim b) (h : (rightD na a e && rightD nb b f) = false) {Q : PV → Nat → List Nat → Prop}
    (hQ : Q (.tup [D false ⟨0, 0, 0⟩ [] 0, .int .i64 1]) n []) : PCall Tryd.prog 19 [D na ia a e, D nb ib b f] n Q := by
  refine of19 hn ?_
  simp (disch := omega) [c19]
  refine CallK.of (by simp) (TwoD_call hn na nb ia ib a b e f ha hb la lb ?_)
  rw [h]
  simpa using hQ
theorem MulD_Z {n : Nat} (hn : 0 < n) (x y z e f : Int) (ia ib : Sid) (hia : ia.f < n) (hib : ib.f < n) (k m : Nat) (hx : sz x k) (hy : sz y m) (hk : k + m ≤ 512) (hz : x * y = z) (hx2 : rightD (decide (x < 0)) (dig x.natAbs) e = true) (hy2 : rightD (decide (y < 0)) (dig y.natAbs) f = true) (he : -16384 ≤ e ∧ e ≤ 16384) (hf : -16384 ≤ f ∧ f ≤ 16384) {Q : PV → Nat → List Nat → Prop}
    (hQ : ∀ (i' : Sid) (n' : Nat), n ≤ n' → newSid n n' i' → Q (if dyOk z (e + f) then .tup [D (decide (dyM z < 0)) i' (dig (dyM z).natAbs) (dyE z (e + f)), .int .i64 0] else .tup [D false ⟨0, 0, 0⟩ [] 0, .int .i64 2]) n' []) : PCall Tryd.prog 19 [D (decide (x < 0)) ia (dig x.natAbs) e, D (decide (y < 0)) ib (dig y.natAbs) f] n Q := by
  have l1 := hx.len
  have l2 := hy.len
  have sz' : sz z 512 := (hz ▸ hx.mul hy : sz z (k + m)).mono hk
  refine of19 hn ?_
  simp (disch := omega) [c19]
  refine CallK.of (by simp) (TwoD_call hn _ _ ia ib _ _ e f (by omega) (by omega) (Lim.dig _) (Lim.dig _) ?_)
  rw [hx2, hy2]
  simp (disch := omega) []
  refine CallK.of (by simp) (Mul_Z (by omega) x y z ia ib hia hib k m hx hy hk hz fun i1 n1 g1 d1 => ?_)
  simp (disch := omega) [g1]
  refine CallK.of (by simp) (dyof_call (by omega) z (e + f) i1 sz' (by omega) fun i2 n2 g2 d2 => ?_)
  have := hQ i2 n2 (by omega) (by rcases d2 with h | h; exact .inl h; exact .inr ⟨by omega, by omega⟩)
  cases hd : dyOk z (e + f)
  · simp [hd] at this
    simpa (disch := omega) [g1, g2] using ⟨by omega, this⟩
  · simp [hd] at this
    simpa (disch := omega) [g1, g2] using ⟨by omega, this⟩

theorem ScaleD_bad {n : Nat} (hn : 0 < n) (na : Bool) (ia : Sid) (a : List Nat) (e b : Int) (ha : a.length < 35184372088800) (la : Lim a) (h : rightD na a e = false) {Q : PV → Nat → List Nat → Prop}
    (hQ : Q (.tup [D false ⟨0, 0, 0⟩ [] 0, .int .i64 1]) n []) : PCall Tryd.prog 20 [D na ia a e, .int .i64 b] n Q := by
  refine of20 hn ?_
  simp (disch := omega) [c20]
  refine CallK.of (by simp) (CheckD_call hn na ia a e ha la ?_)
  rw [h]
  simpa using hQ
theorem ScaleD_far {n : Nat} (hn : 0 < n) (na : Bool) (ia : Sid) (a : List Nat) (e b : Int) (ha : a.length < 35184372088800) (la : Lim a) (h : rightD na a e = true) (hb : b < -32768 ∨ 32768 < b) {Q : PV → Nat → List Nat → Prop}
    (hQ : Q (.tup [D false ⟨0, 0, 0⟩ [] 0, .int .i64 2]) n []) : PCall Tryd.prog 20 [D na ia a e, .int .i64 b] n Q := by
  refine of20 hn ?_
  simp (disch := omega) [c20]
  refine CallK.of (by simp) (CheckD_call hn na ia a e ha la ?_)
  rw [h]
  simp (disch := omega) []
  refine CallK.of (by simp) (far_call hn b ?_)
  have : (decide (b < -32768) || decide (32768 < b)) = true := by simp; omega
  rw [this]
  simpa using hQ
theorem ScaleD_Z {n : Nat} (hn : 0 < n) (x e b : Int) (ia : Sid) (hx : sz x 512) (hx2 : rightD (decide (x < 0)) (dig x.natAbs) e = true) (he : -16384 ≤ e ∧ e ≤ 16384) (hb : -32768 ≤ b ∧ b ≤ 32768) {Q : PV → Nat → List Nat → Prop}
    (hQ : ∀ (i' : Sid) (n' : Nat), n ≤ n' → newSid n n' i' → Q (if dyOk x (e + b) then .tup [D (decide (dyM x < 0)) i' (dig (dyM x).natAbs) (dyE x (e + b)), .int .i64 0] else .tup [D false ⟨0, 0, 0⟩ [] 0, .int .i64 2]) n' []) : PCall Tryd.prog 20 [D (decide (x < 0)) ia (dig x.natAbs) e, .int .i64 b] n Q := by
  have l1 := hx.len
  refine of20 hn ?_
  simp (disch := omega) [c20]
  refine CallK.of (by simp) (CheckD_call hn _ ia _ e (by omega) (Lim.dig _) ?_)
  rw [hx2]
  simp (disch := omega) []
  refine CallK.of (by simp) (far_call hn b ?_)
  have : (decide (b < -32768) || decide (32768 < b)) = false := by simp; omega
  rw [this]
  simp (disch := omega) []
  refine CallK.of (by simp) (Shift_Z (by omega) x x 0 ia hx (shZ_none x) hx (by omega) fun i1 n1 g1 d1 => ?_)
  simp (disch := omega) [g1]
  refine CallK.of (by simp) (dyof_call (by omega) x (e + b) i1 hx (by omega) fun i2 n2 g2 d2 => ?_)
  have := hQ i2 n2 (by omega) (by rcases d2 with h | h; exact .inl h; exact .inr ⟨by omega, by omega⟩)
  cases hd : dyOk x (e + b)
  · simp [hd] at this
    simpa (disch := omega) [g1, g2] using ⟨by omega, this⟩
  · simp [hd] at this
    simpa (disch := omega) [g1, g2] using ⟨by omega, this⟩

/-- The reference's product, of any two whole numbers and powers. -/
theorem RefMulD_call {n : Nat} (hn : 0 < n) (na nb : Bool) (ia ib : Sid) (a b : List Nat) (e f : Int) (ha : a.length ≤ 512) (hb : b.length ≤ 512) (la : Lim a) (lb : Lim b) (z : Int) (hz : numW na a * numW nb b = z) {Q : PV → Nat → List Nat → Prop}
    (hQ : ∀ (i' : Sid) (n' : Nat), n ≤ n' → Q (D (decide (dyM z < 0)) i' (dig (dyM z).natAbs) (if z = 0 then 0 else IntKind.i64.wrap (IntKind.i64.wrap (e + f) + tz z.natAbs))) n' []) : PCall Tryd.prog 21 [D na ia a e, D nb ib b f] n Q := by
  have sz' : sz z 1100 := by
    have h1 := val_lt la
    have h2 := val_lt lb
    have h3 := numW_mul na nb a b
    rw [hz] at h3
    refine sz.mono (k := a.length + b.length) ?_ (by omega)
    unfold sz
    rw [h3, Nat.pow_add]
    exact Nat.mul_lt_mul'' h1 h2
  have hww : IntKind.i64.wrap (IntKind.i64.wrap (e + f)) = IntKind.i64.wrap (e + f) := by rw [wrap_i64_full, wrap_i64_full]; omega
  obtain ⟨v, hv⟩ : ∃ v, v = IntKind.i64.wrap (e + f) := ⟨_, rfl⟩
  rw [← hv] at hww
  refine of21 hn ?_
  simp (disch := omega) [-wrap_i64_at, c21, ← hv]
  refine CallK.of (by simp) (refMul_call (by omega) na nb ia ib a b (by omega) (by omega) la lb z hz fun i1 n1 g1 d1 => ?_)
  simp (disch := omega) [-wrap_i64_at, g1, ← hv]
  refine CallK.of (by simp) (RefOfD_call (by omega) z v i1 (newSid_lt d1 (by omega)) sz' hww fun i2 n2 g2 => ?_)
  have := hQ i2 n2 (by omega)
  rw [← hv] at this
  simp only [D] at this
  simpa (disch := omega) [-wrap_i64_at, g1, g2] using ⟨by omega, this⟩
theorem RefScaleD_call {n : Nat} (hn : 0 < n) (x e b : Int) (ia : Sid) (hia : ia.f < n) (hx : sz x 512) (he : -16384 ≤ e ∧ e ≤ 16384) (hb : -32768 ≤ b ∧ b ≤ 32768) {Q : PV → Nat → List Nat → Prop}
    (hQ : ∀ (i' : Sid) (n' : Nat), n ≤ n' → Q (D (decide (dyM x < 0)) i' (dig (dyM x).natAbs) (if x = 0 then 0 else IntKind.i64.wrap (e + b + tz x.natAbs))) n' []) : PCall Tryd.prog 23 [D (decide (x < 0)) ia (dig x.natAbs) e, .int .i64 b] n Q := by
  refine of23 hn ?_
  simp (disch := omega) [c23]
  refine CallK.of (by simp) (RefOfD_call (by omega) x (e + b) ia hia (hx.mono (by omega)) (wrap_i64_is rfl (by omega)) fun i2 n2 g2 => ?_)
  have := hQ i2 n2 (by omega)
  simp only [D] at this
  simpa (disch := omega) [-wrap_i64_at, g2] using this
end Go.Proofs.YtaankihkejodgaaDoor
