/- What the functions of layer 2 do, by value: numbers are made. -/
import Derived.Test.YtaankihkejodgaaDoorDyA
set_option linter.unusedVariables false
set_option linter.unusedSimpArgs false
namespace Go.Proofs.YtaankihkejodgaaDoor
open Go.Proofs

/-- A dyadic number: its whole one, its power. -/
@[simp] abbrev D (neg : Bool) (i : Sid) (l : List Nat) (e : Int) : PV := .agg [.bool neg, .sl i 1 (u32s l), .int .i64 e]

def zerosI (neg : Bool) (i : Sid) (l : List Nat) (n : Nat) (k : Nat) (s : St) : Prop :=
  ∃ j : Nat, j + k = l.length ∧ val (l.take j) = 0 ∧ At s 21 [[.bool neg, .sl i 1 (u32s l)]] n [(1, .box 0 0), (6, .sl i 1 (u32s l)), (7, .int .i64 l.length), (8, .int .i64 j)]
theorem zeros_call {n : Nat} (hn : 0 < n) (neg : Bool) (i : Sid) (l : List Nat) (hl : l.length < 35184372088800) (ll : Lim l) {Q : PV → Nat → List Nat → Prop}
    (hQ : Q (.int .i64 (if val l = 0 then 0 else tz (val l) : Nat)) n []) : PCall Tryd.prog 57 [W neg i l] n Q := by
  refine of57 hn ?_
  simp (disch := omega) [c57]
  refine GO_loopN (zerosI neg i l n) l.length ⟨0, by omega, by simp, by simp [At]⟩ ?_
  rintro k s ⟨j, hj, hv, ⟨e1, e2, e3, e4, e5⟩⟩
  simp at e5
  obtain ⟨e5, e6, e7, e8⟩ := e5
  by_cases hk : j < l.length
  · have hx := ll.get hk
    obtain ⟨x, hx0⟩ : ∃ x, x = l[j] := ⟨_, rfl⟩
    rw [← hx0] at hx
    by_cases h0 : x = 0
    · subst h0
      simp (disch := omega) [c57L0, e1, e2, e3, e4, e5, e6, e7, e8, hk, ← hx0]
      refine ⟨k - 1, by omega, j + 1, by omega, ?_, by simp [At, e1, e2, e3, e4, e5, e6, e7, e8]⟩
      rw [val_take_succ, hv]; simp [List.getD, hk, ← hx0]
    · have hvl : val l = 4294967296 ^ j * (x + 4294967296 * val (l.drop (j + 1))) := by
        have := val_split l j
        rw [hv, List.drop_eq_getElem_cons hk, val_cons, ← hx0] at this
        omega
      have htz := tz_limb (i := j) (r := val (l.drop (j + 1))) h0 hx
      rw [← hvl] at htz
      have hvp : ¬ val l = 0 := by
        rw [hvl]
        have : 0 < 4294967296 ^ j * (x + 4294967296 * val (l.drop (j + 1))) := Nat.mul_pos (Nat.pos_of_ne_zero (by simp)) (by omega)
        omega
      rw [if_neg hvp, htz] at hQ
      have htl := tz_lt (n := 32) h0 hx
      obtain ⟨c0, hc0⟩ : ∃ c0, c0 = 32 * j := ⟨_, rfl⟩
      have hw : IntKind.i64.wrap (32 * (j : Int)) = (c0 : Int) := wrap_i64_is (by omega) (by omega)
      simp (disch := omega) [-wrap_i64_at, c57L0, e1, e2, e3, e4, e5, e6, e7, e8, hk, ← hx0, h0, hw]
      refine CallK.of (by simp) (TZ32_call (by omega) x hx h0 ?_)
      have hs : (c0 : Int) + (tz x : Nat) = ((32 * j + tz x : Nat) : Int) := by omega
      rw [← hs] at hQ
      simpa (disch := omega) [e1, e2, e3, e4, e5, e6, e7, e8] using hQ
  · rw [List.take_of_length_le (by omega)] at hv
    rw [if_pos hv] at hQ
    simpa (disch := omega) [c57L0, c57R0, e1, e2, e3, e4, e5, e6, e7, e8, hk] using hQ

/-- A whole number times a power of two: what is odd of it, and the power. -/
def dyM (x : Int) : Int := if x = 0 then 0 else shZ x (-(tz x.natAbs : Int))
def dyE (x e : Int) : Int := if x = 0 then 0 else e + tz x.natAbs
/-- May the number be? -/
def dyOk (x e : Int) : Bool := decide (x = 0) || (decide (-16384 ≤ dyE x e) && decide (dyE x e ≤ 16384))

theorem dyM_abs {x : Int} (h : x ≠ 0) : ∃ o, o % 2 = 1 ∧ x.natAbs = 2 ^ tz x.natAbs * o ∧ (dyM x).natAbs = o := by
  obtain ⟨o, h1, h2⟩ := tz_split (v := x.natAbs) (by omega)
  refine ⟨o, h1, h2, ?_⟩
  have hP : 0 < 2 ^ tz x.natAbs := Nat.pos_of_ne_zero (by simp)
  unfold dyM
  rw [if_neg h, shZ_abs]
  by_cases h0 : tz x.natAbs = 0
  · rw [if_pos (by omega)]
    rw [h0] at h2
    rw [h0]; simp at h2 ⊢; exact h2
  · rw [if_neg (by omega), Int.neg_neg, Int.toNat_natCast]
    generalize tz x.natAbs = k at *
    rw [h2, Nat.mul_div_cancel_left _ hP]
theorem sz_dyM {x : Int} {k : Nat} (h : sz x k) : sz (dyM x) k := by
  by_cases h0 : x = 0
  · subst h0; simpa [dyM] using h
  · obtain ⟨o, h1, h2, h3⟩ := dyM_abs h0
    have hP : 0 < 2 ^ tz x.natAbs := Nat.pos_of_ne_zero (by simp)
    refine h.le ?_
    rw [h3, h2]
    generalize 2 ^ tz x.natAbs = p at *
    exact Nat.le_mul_of_pos_left o hP
theorem tz_sz {x : Int} {k : Nat} (h0 : x ≠ 0) (h : sz x k) : tz x.natAbs < 32 * k := by
  refine tz_lt (by omega) ?_
  unfold sz at h
  rwa [Nat.pow_mul]

theorem dyof_call {n : Nat} (hn : 0 < n) (x e : Int) (i : Sid) (hx : sz x 512) (he : -1000000 ≤ e ∧ e ≤ 1000000) {Q : PV → Nat → List Nat → Prop}
    (hQ : ∀ (i' : Sid) (n' : Nat), n ≤ n' → newSid n n' i' → Q (if dyOk x e then .tup [D (decide (dyM x < 0)) i' (dig (dyM x).natAbs) (dyE x e), .int .i64 0] else .tup [D false ⟨0, 0, 0⟩ [] 0, .int .i64 2]) n' []) : PCall Tryd.prog 36 [W (decide (x < 0)) i (dig x.natAbs), .int .i64 e] n Q := by
  have hl := hx.len
  refine of36 hn ?_
  by_cases h0 : x = 0
  · subst h0
    have := hQ ⟨0, 0, 0⟩ n (by omega) (.inl rfl)
    simp [dyOk, dyM, dyE, dig_zero] at this
    simpa (disch := omega) [c36, dig_zero] using this
  · obtain ⟨hd, hd2⟩ := dig_ne h0
    have htz := tz_sz h0 hx
    have hM : dyM x = shZ x (-(tz x.natAbs : Int)) := by simp [dyM, h0]
    have hE : dyE x e = e + tz x.natAbs := by simp [dyE, h0]
    have hok : dyOk x e = (decide (-16384 ≤ dyE x e) && decide (dyE x e ≤ 16384)) := by simp [dyOk, h0]
    obtain ⟨z, hz⟩ : ∃ z, z = tz x.natAbs := ⟨_, rfl⟩
    rw [← hz] at htz hM hE
    simp (disch := omega) [c36, hd2]
    refine CallK.of (by simp) (zeros_call hn _ i _ (by omega) (Lim.dig _) ?_)
    rw [val_dig, if_neg (by omega), ← hz]
    have hw : IntKind.i64.wrap (-(z : Int)) = -(z : Int) := wrap_i64_is (by omega) (by omega)
    have hwe : IntKind.i64.wrap (e + (z : Int)) = e + z := wrap_i64_is (by omega) (by omega)
    simp (disch := omega) [-wrap_i64_at, hw]
    refine CallK.of (by simp) (Shift_Z (by omega) x (dyM x) (-(z : Int)) i hx hM.symm (sz_dyM hx) (by omega) fun i1 n1 g1 d1 => ?_)
    have hQ := hQ i1 n1 g1 d1
    rw [hok, hE] at hQ
    by_cases c1 : e + (z : Int) < -16384
    · rw [if_neg (by simp; omega)] at hQ
      simpa (disch := omega) [-wrap_i64_at, g1, hwe, c1] using hQ
    · by_cases c2 : 16384 < e + (z : Int)
      · rw [if_neg (by simp; omega)] at hQ
        simpa (disch := omega) [-wrap_i64_at, g1, hwe, c1, c2] using hQ
      · rw [if_pos (by simp; omega)] at hQ
        simpa (disch := omega) [-wrap_i64_at, g1, hwe, c1, c2] using hQ

theorem far_call {n : Nat} (hn : 0 < n) (e : Int) {Q : PV → Nat → List Nat → Prop} (hQ : Q (.bool (decide (e < -32768) || decide (32768 < e))) n []) : PCall Tryd.prog 35 [.int .i64 e] n Q := by
  refine of35 hn ?_
  by_cases h1 : e < -32768
  · simpa [c35, h1] using hQ
  · simpa [c35, h1] using hQ

theorem Make_call {n : Nat} (hn : 0 < n) (na : Bool) (ia : Sid) (a : List Nat) (ha : a.length < 35184372088800) (la : Lim a) (e : Int) {Q : PV → Nat → List Nat → Prop}
    (h0 : rightW na a = false → Q (.tup [D false ⟨0, 0, 0⟩ [] 0, .int .i64 1]) n [])
    (h1 : rightW na a = true → (e < -32768 ∨ 32768 < e) → Q (.tup [D false ⟨0, 0, 0⟩ [] 0, .int .i64 2]) n [])
    (hQ : rightW na a = true → (-32768 ≤ e ∧ e ≤ 32768) → ∀ (i' : Sid) (n' : Nat), n ≤ n' → newSid n n' i' → Q (if dyOk (numW na a) e then .tup [D (decide (dyM (numW na a) < 0)) i' (dig (dyM (numW na a)).natAbs) (dyE (numW na a) e), .int .i64 0] else .tup [D false ⟨0, 0, 0⟩ [] 0, .int .i64 2]) n' []) : PCall Tryd.prog 11 [W na ia a, .int .i64 e] n Q := by
  refine of11 hn ?_
  simp (disch := omega) [c11]
  refine CallK.of (by simp) (Check_call hn na ia a (by omega) ?_)
  by_cases hr : rightW na a = true
  · simp (disch := omega) [hr]
    refine CallK.of (by simp) (far_call hn e ?_)
    by_cases c1 : e < -32768
    · simpa [c1] using h1 hr (.inl c1)
    · by_cases c2 : 32768 < e
      · simpa [c1, c2] using h1 hr (.inr c2)
      · simp (disch := omega) [c1, c2]
        have hQ := hQ hr (by omega)
        obtain ⟨x, rfl, rfl⟩ := right_Z hr la
        rw [numW_dig] at hQ
        refine CallK.of (by simp) (dyof_call hn x e ia ((sz_dig x).mono (rightW_top hr).2.1) (by omega) fun i' n' g1 d1 => ?_)
        have hQ := hQ i' n' g1 d1
        cases hd : dyOk x e
        · simp [hd] at hQ
          simpa (disch := omega) [g1] using hQ
        · simp [hd] at hQ
          simpa (disch := omega) [g1] using hQ
  · rw [Bool.not_eq_true] at hr
    simpa [hr] using h0 hr
end Go.Proofs.YtaankihkejodgaaDoor
