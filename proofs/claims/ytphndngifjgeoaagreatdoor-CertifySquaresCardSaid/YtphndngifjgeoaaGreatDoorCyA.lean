/- The matrix's and the certificate's small functions by value: which matrices are right, sums and products of exact numbers, the closure that adds a product. -/
import Derived.Test.YtphndngifjgeoaaGreatDoorDyV
import Derived.Test.YtphndngifjgeoaaGreatDoorSrV
import Derived.Test.YtphndngifjgeoaaGreatDoorExV
set_option linter.unusedVariables false
set_option linter.unusedSimpArgs false
set_option maxRecDepth 20000
namespace Go.Proofs.YtphndngifjgeoaaGreatDoor
open Go.Proofs

def bts (l : List Nat) : List PV := l.map fun (x : Nat) => .int .u64 (x : Int)
@[simp] theorem bts_length (l : List Nat) : (bts l).length = l.length := by simp [bts]
@[simp] theorem bts_get (l : List Nat) (i : Nat) : (bts l)[i]? = (l[i]?).map fun (x : Nat) => PV.int .u64 (x : Int) := by simp [bts]
@[simp] theorem bts_eq_nil (l : List Nat) : bts l = [] ↔ l = [] := by simp [bts]
/-- A matrix. -/
@[simp] abbrev Mx (r c : Int) (i : Sid) (l : List Nat) : PV := .agg [.int .i64 r, .int .i64 c, .sl i 1 (bts l)]
/-- Bits. -/
def Bt (l : List Nat) : Prop := ∀ x, x ∈ l → x < 18446744073709551616
theorem Bt.get {l : List Nat} (h : Bt l) {j : Nat} (hj : j < l.length) : l[j] < 18446744073709551616 := h _ (List.getElem_mem hj)

/-- Is the matrix right? -/
def mOk (r c : Int) (l : List Nat) : Bool := decide (0 ≤ r) && decide (r ≤ 6) && decide (0 ≤ c) && decide (c ≤ 6) && decide ((l.length : Int) = r * c)
theorem mOk_iff {r c : Int} {l : List Nat} : mOk r c l = true ↔ 0 ≤ r ∧ r ≤ 6 ∧ 0 ≤ c ∧ c ≤ 6 ∧ (l.length : Int) = r * c := by
  simp [mOk, and_assoc]
theorem msize_call {n : Nat} (hn : 0 < n) (r : Int) {Q : PV → Nat → List Nat → Prop} (hQ : Q (.bool (decide (0 ≤ r) && decide (r ≤ 6))) n []) : PCall Tryz.prog 37 [.int .i64 r] n Q := by
  refine of37 hn ?_
  by_cases h : 0 ≤ r
  · simpa (disch := omega) [c37, h] using hQ
  · simpa (disch := omega) [c37, h] using hQ
theorem MCheck_call {n : Nat} (hn : 0 < n) (r c : Int) (i : Sid) (l : List Nat) {Q : PV → Nat → List Nat → Prop} (hQ : Q (.int .i64 (if mOk r c l = true then 0 else 1)) n []) : PCall Tryz.prog 19 [Mx r c i l] n Q := by
  refine of19 hn ?_
  unfold mOk at hQ
  simp (disch := omega) [c19]
  refine CallK.of (by simp) (msize_call hn r ?_)
  by_cases h1 : 0 ≤ r ∧ r ≤ 6
  · simp (disch := omega) [h1.1, h1.2]
    refine CallK.of (by simp) (msize_call hn c ?_)
    by_cases h2 : 0 ≤ c ∧ c ≤ 6
    · have hr : r = 0 ∨ r = 1 ∨ r = 2 ∨ r = 3 ∨ r = 4 ∨ r = 5 ∨ r = 6 := by omega
      have hw : IntKind.i64.wrap (r * c) = r * c := by
        refine wrap_i64_is rfl ?_
        rcases hr with rfl | rfl | rfl | rfl | rfl | rfl | rfl <;> omega
      by_cases h3 : (l.length : Int) = r * c
      · have hne : (((l.length : Int) != r * c) : Bool) = false := by simp [h3]
        simp only [h1.1, h1.2, h2.1, h2.2, h3, decide_true, Bool.and_self, if_true] at hQ
        simpa (disch := omega) [-wrap_i64_at, hw, hne, h2.1, h2.2] using hQ
      · have hne : (((l.length : Int) != r * c) : Bool) = true := by simpa using h3
        have hQ' : Q (.int .i64 1) n [] := by simpa [h3] using hQ
        simpa (disch := omega) [-wrap_i64_at, hw, hne, h2.1, h2.2] using hQ'
    · have hQ' : Q (.int .i64 1) n [] := by
        rw [if_neg] at hQ
        · exact hQ
        · simp; intro _ _ a b; exact absurd ⟨a, b⟩ h2
      have hb : (decide (0 ≤ c) && decide (c ≤ 6)) = false := by simpa using h2
      simpa (disch := omega) [hb] using hQ'
  · have hQ' : Q (.int .i64 1) n [] := by
      rw [if_neg] at hQ
      · exact hQ
      · simp; intro a b; exact absurd ⟨a, b⟩ h1
    have hb : (decide (0 ≤ r) && decide (r ≤ 6)) = false := by simpa using h1
    simpa (disch := omega) [hb] using hQ'
theorem MRight_call {n : Nat} (hn : 0 < n) (r c : Int) (i : Sid) (l : List Nat) {Q : PV → Nat → List Nat → Prop} (hQ : Q (.bool (mOk r c l)) n []) : PCall Tryz.prog 17 [Mx r c i l] n Q := by
  refine of17 hn ?_
  unfold mOk at hQ
  by_cases h1 : 0 ≤ r
  · by_cases h2 : r ≤ 6
    · by_cases h3 : 0 ≤ c
      · by_cases h4 : c ≤ 6
        · have hr : r = 0 ∨ r = 1 ∨ r = 2 ∨ r = 3 ∨ r = 4 ∨ r = 5 ∨ r = 6 := by omega
          have hw : IntKind.i64.wrap (r * c) = r * c := by
            refine wrap_i64_is rfl ?_
            rcases hr with rfl | rfl | rfl | rfl | rfl | rfl | rfl <;> omega
          have he : (((l.length : Int) == r * c) : Bool) = decide ((l.length : Int) = r * c) := by
            by_cases h : (l.length : Int) = r * c <;> simp [h]
          simp only [h1, h2, h3, h4, decide_true, Bool.true_and] at hQ
          simpa (disch := omega) [-wrap_i64_at, c17, h1, h2, h3, h4, hw, he] using hQ
        · simpa (disch := omega) [c17, h1, h2, h3, h4] using hQ
      · simpa (disch := omega) [c17, h1, h2, h3] using hQ
    · simpa (disch := omega) [c17, h1, h2] using hQ
  · simpa (disch := omega) [c17, h1] using hQ

def finI (i : Sid) (l : List Nat) (n : Nat) (k : Nat) (s : St) : Prop :=
  ∃ j : Nat, j + k = l.length ∧ At s 16 [] n [(0, .sl i 1 (bts l)), (3, .int .i64 j)] ∧ (l.take j).all finB = true
theorem RefFin_call {n : Nat} (hn : 0 < n) (i : Sid) (l : List Nat) (hl : l.length < 35184372088800) (hb : Bt l) {Q : PV → Nat → List Nat → Prop} (hQ : Q (.bool (l.all finB)) n []) : PCall Tryz.prog 18 [.sl i 1 (bts l)] n Q := by
  refine of18 hn ?_
  simp (disch := omega) [c18]
  refine GO_loopN (finI i l n) l.length ⟨0, by omega, by simp [At], by simp⟩ ?_
  rintro k s ⟨j, hj, ⟨e1, e2, e3, e4, e5⟩, ha⟩
  simp at e5
  obtain ⟨e5, e6⟩ := e5
  by_cases hk : j < l.length
  · obtain ⟨x, hx⟩ : ∃ x, x = l[j] := ⟨_, rfl⟩
    simp (disch := omega) [c18L0, e1, e2, e3, e4, e5, e6, hk, ← hx]
    refine CallK.of (by simp) (RefFiniteB_call hn x (by rw [hx]; exact hb.get hk) ?_)
    cases hf : finB x
    · have hal : l.all finB = false := by
        rw [Bool.eq_false_iff]; intro h
        have := List.all_eq_true.1 h l[j] (List.getElem_mem hk)
        rw [← hx, hf] at this; cases this
      rw [hal] at hQ
      simpa (disch := omega) [e1, e2, e3, e4, e5, e6, hf] using hQ
    · simp (disch := omega) [e1, e2, e3, e4, e5, e6, hf]
      exact ⟨k - 1, by omega, j + 1, by omega, by simp [At, e1, e2, e3, e4, e5, e6], all_take hk ha (by rw [← hx]; exact hf)⟩
  · have : l.take j = l := List.take_of_length_le (by omega)
    rw [this] at ha
    rw [ha] at hQ
    simpa (disch := omega) [c18L0, c18R0, e1, e2, e3, e4, e5, e6, hk] using hQ
/-- Why a matrix may not be asked. -/
def mChk (r c : Int) (l : List Nat) : Int := if mOk r c l = true then (if l.all finB = true then 0 else 4) else 1
theorem RefMCheck_call {n : Nat} (hn : 0 < n) (r c : Int) (i : Sid) (l : List Nat) (hl : l.length < 35184372088800) (hb : Bt l) {Q : PV → Nat → List Nat → Prop} (hQ : Q (.int .i64 (mChk r c l)) n []) : PCall Tryz.prog 6 [Mx r c i l] n Q := by
  refine of6 hn ?_
  unfold mChk at hQ
  simp (disch := omega) [c6]
  refine CallK.of (by simp) (MRight_call hn r c i l ?_)
  cases h : mOk r c l
  · simpa (disch := omega) [h] using hQ
  · simp (disch := omega) [h]
    refine CallK.of (by simp) (RefFin_call hn i l hl hb ?_)
    cases h2 : l.all finB
    · simpa (disch := omega) [h, h2] using hQ
    · simpa (disch := omega) [h, h2] using hQ
def chkI (r c : Int) (i : Sid) (l : List Nat) (n : Nat) (k : Nat) (s : St) : Prop :=
  ∃ j : Nat, j + k = l.length ∧ At s 19 [[.int .i64 r, .int .i64 c, .sl i 1 (bts l)]] n [(1, .box 0 0), (9, .sl i 1 (bts l)), (10, .int .i64 l.length), (11, .int .i64 j)] ∧ (l.take j).all finB = true
theorem MCheck11_call {n : Nat} (hn : 0 < n) (r c : Int) (i : Sid) (l : List Nat) (hl : l.length < 35184372088800) (hb : Bt l) {Q : PV → Nat → List Nat → Prop} (hQ : Q (.int .i64 (mChk r c l)) n []) : PCall Tryz.prog 7 [Mx r c i l] n Q := by
  refine of7 hn ?_
  unfold mChk at hQ
  simp (disch := omega) [c7]
  refine CallK.of (by simp) (MCheck_call hn r c i l ?_)
  cases h : mOk r c l
  · simpa (disch := omega) [h] using hQ
  · rw [h, if_pos rfl] at hQ
    simp (disch := omega) [h]
    refine GO_loopN (chkI r c i l n) l.length ⟨0, by omega, by simp [At], by simp⟩ ?_
    rintro k s ⟨j, hj, ⟨e1, e2, e3, e4, e5⟩, ha⟩
    simp at e5
    obtain ⟨e5, e6, e7, e8⟩ := e5
    by_cases hk : j < l.length
    · obtain ⟨x, hx⟩ : ∃ x, x = l[j] := ⟨_, rfl⟩
      simp (disch := omega) [c7L0, e1, e2, e3, e4, e5, e6, e7, e8, hk, ← hx]
      refine CallK.of (by simp) (Finite_call hn x (by rw [hx]; exact hb.get hk) ?_)
      cases hf : finB x
      · have hal : l.all finB = false := by
          rw [Bool.eq_false_iff]; intro h
          have := List.all_eq_true.1 h l[j] (List.getElem_mem hk)
          rw [← hx, hf] at this; cases this
        rw [hal] at hQ
        simpa (disch := omega) [e1, e2, e3, e4, e5, e6, e7, e8, hf] using hQ
      · simp (disch := omega) [e1, e2, e3, e4, e5, e6, e7, e8, hf]
        exact ⟨k - 1, by omega, j + 1, by omega, by simp [At, e1, e2, e3, e4, e5, e6, e7, e8], all_take hk ha (by rw [← hx]; exact hf)⟩
    · have : l.take j = l := List.take_of_length_le (by omega)
      rw [this] at ha
      rw [ha] at hQ
      simpa (disch := omega) [c7L0, c7R0, e1, e2, e3, e4, e5, e6, e7, e8, hk] using hQ

/-! ### exact sums and products -/
theorem cplus_call {n : Nat} (hn : 0 < n) (L v w s : Int) (ia ib : Sid) (k : Nat) (hv : sz v k) (hw : sz w k) (hk : k ≤ 511) (hL : -16384 ≤ L ∧ L + 32 * (k + 1) ≤ 16384) (hs : v + w = s) {Q : PV → Nat → List Nat → Prop}
    (hQ : ∀ (i' : Sid) (n' : Nat), n ≤ n' → newSid n n' i' → Q (NV L s i') n' []) : PCall Tryz.prog 35 [NV L v ia, NV L w ib] n Q := by
  refine of35 hn ?_
  simp (disch := omega) [c35]
  refine CallK.of (by simp) (Add_V hn L v w s ia ib k hv hw hk hL hs fun i' n' g d => ?_)
  have := hQ i' n' g d
  simp only [NV, D] at this
  simpa (disch := omega) [g] using this
theorem ctimes_call {n : Nat} (hn : 0 < n) (L L2 v w s : Int) (ia ib : Sid) (hia : ia.f < n) (hib : ib.f < n) (k m : Nat) (hv : sz v k) (hw : sz w m) (hk : k + m ≤ 512) (hL : -16384 ≤ L ∧ L + 32 * k ≤ 16384) (hL2 : -16384 ≤ L2 ∧ L2 + 32 * m ≤ 16384) (hLL : -16384 ≤ L + L2 ∧ L + L2 + 32 * (k + m) ≤ 16384) (hs : v * w = s) {Q : PV → Nat → List Nat → Prop}
    (hQ : ∀ (i' : Sid) (n' : Nat), n ≤ n' → newSid n n' i' → Q (NV (L + L2) s i') n' []) : PCall Tryz.prog 36 [NV L v ia, NV L2 w ib] n Q := by
  refine of36 hn ?_
  simp (disch := omega) [c36]
  refine CallK.of (by simp) (Mul_V hn L L2 v w s ia ib hia hib k m hv hw hk hL hL2 hLL hs fun i' n' g d => ?_)
  have := hQ i' n' g d
  simp only [NV, D] at this
  simpa (disch := omega) [g] using this
/-- A dyadic number's cells. -/
abbrev NC (L v : Int) (i : Sid) : List PV := [.bool (decide (dyM v < 0)), .sl i 1 (u32s (dig (dyM v).natAbs)), .int .i64 (dyE v L)]
/-- The closure adds a product to the box that it has captured. -/
theorem clo_call {n : Nat} (hn : 0 < n) (L L2 v w S : Int) (ia ib iS : Sid) (hia : ia.f < n) (hib : ib.f < n) (k m p : Nat) (hv : sz v k) (hw : sz w m) (hk : k + m ≤ 512) (hL : -16384 ≤ L ∧ L + 32 * k ≤ 16384) (hL2 : -16384 ≤ L2 ∧ L2 + 32 * m ≤ 16384) (hS : sz S p) (hp : k + m ≤ p ∧ p ≤ 511) (hLL : -16384 ≤ L + L2 ∧ L + L2 + 32 * (p + 1) ≤ 16384)
    (bx : List (List PV)) (ks : Nat) (hks : bx[ks]? = some (NC (L + L2) S iS)) {Q : PV → List (List PV) → Nat → Prop}
    (hQ : ∀ (i' : Sid) (n' : Nat) (t1 t2 : List PV), n ≤ n' → newSid n n' i' → Q (.tup []) (bx.set ks (NC (L + L2) (S + v * w) i') ++ [t1, t2]) n') : PCallB Tryz.prog 40 [NV L v ia, NV L2 w ib, .box ks 0] bx n Q := by
  obtain ⟨hkl, hkg⟩ := List.getElem?_eq_some_iff.1 hks
  refine ofB40 hn ?_
  simp (disch := omega) [c40, hkl, hkg]
  refine CallK.of (by simp) (ctimes_call hn L L2 v w (v * w) ia ib hia hib k m hv hw hk hL hL2 (by omega) rfl fun i1 n1 g1 d1 => ?_)
  simp (disch := omega) [g1, hkl, hkg]
  refine CallK.of (by simp) (cplus_call (by omega) (L + L2) S (v * w) (S + v * w) iS i1 p hS ((hv.mul hw).mono hp.1) hp.2 hLL rfl fun i2 n2 g2 d2 => ?_)
  have := fun t1 t2 => hQ i2 n2 t1 t2 (by omega) (by rcases d2 with h | h; exact .inl h; exact .inr ⟨by omega, by omega⟩)
  simp (disch := omega) [g1, g2, hkl, hkg]
  exact ⟨by omega, this _ _⟩
end Go.Proofs.YtphndngifjgeoaaGreatDoor
