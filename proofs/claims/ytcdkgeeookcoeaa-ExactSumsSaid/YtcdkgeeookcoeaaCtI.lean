/- What the functions of layer 1 do, by value: products. -/
import Derived.Test.YtcdkgeeookcoeaaCtH
set_option linter.unusedVariables false
set_option linter.unusedSimpArgs false
namespace Go.Proofs.Ytcdkgeeookcoeaa
open Go.Proofs

@[simp] theorem replicate_u32 (n : Nat) : List.replicate n (PV.int .u32 0) = u32s (List.replicate n 0) := by simp [u32s]
theorem set_getD_other {o : List Nat} {p q v : Nat} (h : ¬ p = q) : (o.set p v).getD q 0 = o.getD q 0 := by simp [List.getD, List.getElem?_set, h]

@[simp] theorem pvupd_far (f g off z j c z' : Nat) (i' : Sid) (vs : List PV) (l : List Nat) (h : ¬ i'.f = f) : PV.upd ⟨f, g, off⟩ z j c vs (.sl i' z' (u32s l)) = .sl i' z' (u32s l) := pvupd_other _ _ _ _ _ _ _ _ h
@[simp] theorem pvupd_far0 (f g off z j c z' f' g' off' : Nat) (vs : List PV) (h : ¬ f' = f) : PV.upd ⟨f, g, off⟩ z j c vs (.sl ⟨f', g', off'⟩ z' []) = .sl ⟨f', g', off'⟩ z' [] := pvupd_other _ _ _ _ _ _ _ [] h
theorem mul_set {p v P R w c xy lo hi : Nat} (e : lo + 4294967296 * hi = xy + w + c) (h : p + P * w = v + P * lo) (h2 : v + P * c = R) : p + P * 4294967296 * hi = R + P * xy := by
  have := congrArg (P * ·) e
  simp only [Nat.mul_add] at this
  rw [← Nat.mul_assoc] at this
  omega
def mulBs (na nb : Bool) (ia ib : Sid) (a b : List Nat) : List (List PV) := [[.bool na, .sl ia 1 (u32s a)], [.bool nb, .sl ib 1 (u32s b)], [.bool false, .sl ⟨0, 0, 0⟩ 1 []]]
def mulI (na nb : Bool) (ia ib : Sid) (a b : List Nat) (n : Nat) (k : Nat) (s : St) : Prop :=
  ∃ (i : Nat) (o : List Nat), i + k = a.length ∧ At s 86 (mulBs na nb ia ib a b) (n + 1) [(2, .box 0 0), (3, .box 1 0), (4, .box 2 0), (6, .sl ⟨n, n, 0⟩ 1 (u32s o)), (27, .sl ia 1 (u32s a)), (28, .int .i64 a.length), (29, .int .i64 i)] ∧ s.n0 = n ∧ o.length = a.length + b.length ∧ Lim o ∧ (∀ q, i + b.length ≤ q → o.getD q 0 = 0) ∧ val o = val (a.take i) * val b
def mulJ (na nb : Bool) (ia ib : Sid) (a b : List Nat) (n i x : Nat) (o : List Nat) (k : Nat) (s : St) : Prop :=
  ∃ (j c : Nat) (o' : List Nat), j + k = b.length ∧ At s 86 (mulBs na nb ia ib a b) (n + 1) [(2, .box 0 0), (3, .box 1 0), (4, .box 2 0), (6, .sl ⟨n, n, 0⟩ 1 (u32s o')), (27, .sl ia 1 (u32s a)), (28, .int .i64 a.length), (29, .int .i64 i), (7, .int .i64 i), (8, .int .u32 x), (9, .int .u64 c), (35, .sl ib 1 (u32s b)), (36, .int .i64 b.length), (37, .int .i64 j)] ∧ s.n0 = n ∧ o'.length = a.length + b.length ∧ Lim o' ∧ c < 4294967296 ∧ (∀ q, i + b.length ≤ q → o'.getD q 0 = 0) ∧ val o' + 4294967296 ^ (i + j) * c = val o + 4294967296 ^ i * (x * val (b.take j))

theorem mul_call {n : Nat} (hn : 0 < n) (na nb : Bool) (ia ib : Sid) (hia : ia.f < n) (hib : ib.f < n) (a b : List Nat) (ha : a.length < 35184372088800) (hb : b.length < 35184372088800) (la : Lim a) (lb : Lim b) {Q : PV → Nat → List Nat → Prop}
    (hQ : ∀ (i : Sid) (n' : Nat) (an : Bool) (al : List Nat) (e : Int), n ≤ n' → newSid n n' i → ansIs (rightW na a && rightW nb b) (numW na a * numW nb b) an al e → Q (.tup [W an i al, .int .i64 e]) n' []) : PCall Try.prog 47 [W na ia a, W nb ib b] n Q := by
  refine of47 hn ?_
  simp (disch := omega) [c47]
  refine CallK.of (by simp) (two_call hn na nb ia ib a b (by omega) (by omega) ?_)
  by_cases hr : (rightW na a && rightW nb b) = true
  · have hQ := fun i n' an al e h1 h2 h3 => hQ i n' an al e h1 h2 h3
    simp only [hr] at hQ
    simp only [Bool.and_eq_true] at hr
    have hra := (rightW_top hr.1).2.1
    have hrb := (rightW_top hr.2).2.1
    have hi2 : ¬ ia.f = n ∧ ¬ ib.f = n ∧ ¬ n = 0 := by omega
    have htn : ((a.length : Int) + b.length).toNat = a.length + b.length := by omega
    simp (disch := omega) [hr, htn]
    refine ⟨by omega, by omega, ?_⟩
    refine GO_loopN (mulI na nb ia ib a b n) a.length ⟨0, List.replicate (a.length + b.length) 0, by omega, by simp [At, mulBs], by simp, by simp, Lim.replicate _, fun q _ => by simp [List.getD, List.getElem?_replicate]; split <;> rfl, by simp [val_replicate]⟩ ?_
    rintro k s ⟨i, o, hi, ⟨e1, e2, e3, e4, e5⟩, e0, hol, lo, hz, hv⟩
    simp at e5
    obtain ⟨e5, e6, e7, e8, e9, e10, e11⟩ := e5
    unfold mulBs at e2
    by_cases hk : i < a.length
    · have hx := la.get hk
      obtain ⟨x, hx0⟩ : ∃ x, x = a[i] := ⟨_, rfl⟩
      simp (disch := omega) [c47L1, e0, e1, e2, e3, e4, e5, e6, e7, e8, e9, e10, e11, hk, ← hx0]
      refine GO_loopN (mulJ na nb ia ib a b n i x o) b.length ⟨0, 0, o, by omega, by simp [At, mulBs, e1, e2, e3, e4, e5, e6, e7, e8, e9, e10, e11], by simp [e0], hol, lo, by omega, hz, by simp⟩ ?_
      rintro k2 s2 ⟨j, c, o2, hj, ⟨f1, f2, f3, f4, f5⟩, f0, hol2, lo2, hc, hz2, hv2⟩
      simp at f5
      obtain ⟨f5, f6, f7, f8, f9, f10, f11, f12, f13, f14, f15, f16, f17⟩ := f5
      unfold mulBs at f2
      by_cases hk2 : j < b.length
      · have hy := lb.get hk2
        have hq : i + j < o2.length := by omega
        have hw := lo2.get hq
        obtain ⟨y, hy0⟩ : ∃ y, y = b[j] := ⟨_, rfl⟩
        obtain ⟨w, hw0⟩ : ∃ w, w = o2[i + j] := ⟨_, rfl⟩
        have hp := mul_lim (show x < 4294967296 by omega) (show y < 4294967296 by omega)
        obtain ⟨p, hp0⟩ : ∃ p, p = x * y := ⟨_, rfl⟩
        rw [← hp0] at hp
        have hpi : (x : Int) * (y : Int) = (p : Int) := by rw [hp0]; simp
        obtain ⟨l0, hl0⟩ : ∃ l0, l0 = (p + w + c) % 4294967296 := ⟨_, rfl⟩
        obtain ⟨h0, hh0⟩ : ∃ h0, h0 = (p + w + c) / 4294967296 := ⟨_, rfl⟩
        have hst : l0 + 4294967296 * h0 = p + w + c := by omega
        have hlo : IntKind.u32.wrap ((p : Int) + w + c) = (l0 : Int) := by rw [wrap_u32_eq]; omega
        have hhi : ((p : Int) + w + c) / 4294967296 = (h0 : Int) := by omega
        have hij : ((i : Int) + j).toNat = i + j := by omega
        have hi0 : (0 : Int) ≤ (i : Int) + j := by omega
        have hi1 : (i : Int) + j < o2.length := by omega
        simp (disch := omega) [-wrap_u32_at, c47L0, f0, f1, f2, f3, f4, f5, f6, f7, f8, f9, f10, f11, f12, f13, f14, f15, f16, f17, hk2, ← hy0, hi2, hq, hij, hi0, hi1, ← hw0, hpi, hlo, hhi]
        refine ⟨k2 - 1, by omega, j + 1, h0, o2.set (i + j) l0, by omega, ?_, by simp [f0], by simp [hol2], lo2.set _ (by omega), by omega, ?_, ?_⟩
        · refine ⟨by simp [f1], by simp (disch := omega) [mulBs, f2, hi2], by simp [f3], by simp [f0, f4], ?_⟩
          intro pp hpp
          simp only [List.mem_cons, List.not_mem_nil, or_false] at hpp
          rcases hpp with e | e | e | e | e | e | e | e | e | e | e | e | e <;> subst e <;> simp (disch := omega) [f5, f6, f7, f8, f9, f10, f11, f12, f13, f14, f15, f16, f17, hi2]
        · intro q hq2
          rw [set_getD_other (by omega)]; exact hz2 q hq2
        · have h1 := val_set hq l0
          rw [← hw0] at h1
          have := mul_set hst h1 hv2
          rw [show i + (j + 1) = i + j + 1 from rfl, Nat.pow_succ, this, val_take_succ]
          simp only [List.getD, List.getElem?_eq_getElem hk2, Option.getD_some, ← hy0]
          rw [hp0, Nat.pow_add, Nat.mul_add x, Nat.mul_add, Nat.add_assoc]
          rw [Nat.mul_left_comm x, Nat.mul_assoc]
      · have hjb : j = b.length := by omega
        subst hjb
        have hq : i + b.length < o2.length := by omega
        have hib2 : ((i : Int) + b.length).toNat = i + b.length := by omega
        have hi0 : (0 : Int) ≤ (i : Int) + b.length := by omega
        have hi1 : (i : Int) + b.length < o2.length := by omega
        have hw := hz2 (i + b.length) (by omega)
        simp only [List.getD, List.getElem?_eq_getElem hq, Option.getD_some] at hw
        simp (disch := omega) [c47L0, c47R0, c47R1, f0, f1, f2, f3, f4, f5, f6, f7, f8, f9, f10, f11, f12, f13, f14, f15, f16, f17, hk2, hi2, hq, hib2, hi0, hi1]
        refine ⟨k - 1, by omega, i + 1, o2.set (i + b.length) c, by omega, ?_, by simp [f0], by simp [hol2], lo2.set _ hc, ?_, ?_⟩
        · refine ⟨by simp [f1], by simp (disch := omega) [mulBs, f2, hi2], by simp [f3], by simp [f0, f4], ?_⟩
          intro pp hpp
          simp only [List.mem_cons, List.not_mem_nil, or_false] at hpp
          rcases hpp with e | e | e | e | e | e | e <;> subst e <;> simp (disch := omega) [f5, f6, f7, f8, f9, f10, f11, f12, f13, f14, f15, f16, f17, hi2]
        · intro q hq2
          rw [set_getD_other (by omega)]; exact hz2 q (by omega)
        · have h1 := val_set hq c
          rw [hw, Nat.mul_zero, Nat.add_zero] at h1
          rw [List.take_of_length_le (by omega)] at hv2
          rw [h1, hv2, val_take_succ, hv, Nat.add_mul]
          simp only [List.getD, List.getElem?_eq_getElem hk, Option.getD_some, ← hx0]
          rw [Nat.mul_assoc]
    · have hia2 : i = a.length := by omega
      rw [List.take_of_length_le (by omega)] at hv
      simp (disch := omega) [c47L1, c47R2, e0, e1, e2, e3, e4, e5, e6, e7, e8, e9, e10, e11, hk]
      refine CallK.of (by simp) (of_call' (by omega) (na != nb) _ o (by omega) lo (numW na a * numW nb b) ?_ ?_ fun i' hi' => ?_)
      · rw [hv, numW_mul]
      · rw [hv]; exact numW_mul_neg na nb a b
      · have := hQ i' (n + 1) (ansN (numW na a * numW nb b)) (ansL (numW na a * numW nb b)) (ansE (numW na a * numW nb b)) (by omega) (by rcases hi' with e | e; exact .inl e; subst e; exact .inr ⟨by simp, by simp⟩) (by simp [ansIs])
        simp only [W] at this
        simpa (disch := omega) [e0, e1, e2, e3, e4, e5, e6, e7, e8, e9, e10, e11] using this
  · rw [Bool.not_eq_true] at hr
    have := hQ ⟨0, 0, 0⟩ n false [] 1 (by omega) (.inl rfl) (by simp [ansIs, hr])
    simp only [W] at this
    rw [hr]
    simpa using this
end Go.Proofs.Ytcdkgeeookcoeaa
