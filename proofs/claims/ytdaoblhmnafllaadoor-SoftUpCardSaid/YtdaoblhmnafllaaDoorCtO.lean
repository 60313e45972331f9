/- What the functions of layer 1 do, by value: the reference's shifts. -/
import Derived.Test.YtdaoblhmnafllaaDoorCtN
set_option linter.unusedVariables false
set_option linter.unusedSimpArgs false
namespace Go.Proofs.YtdaoblhmnafllaaDoor
open Go.Proofs

theorem numW_sign (na : Bool) (a : List Nat) (h : val a ≠ 0) : na = decide (numW na a < 0) := by
  unfold numW; cases na <;> simp; omega

theorem Double_call {n : Nat} (hn : 0 < n) (na : Bool) (ia : Sid) (a : List Nat) (ha : a.length < 35184372088000) (la : Lim a) (z : Int) (hz : numW na a * 2 = z) {Q : PV → Nat → List Nat → Prop}
    (hQ : ∀ (i : Sid) (n' : Nat), n ≤ n' → newSid n n' i → Q (W (decide (z < 0)) i (dig z.natAbs)) n' []) : PCall Tryd.prog 77 [W na ia a] n Q := by
  simp only [W] at hQ
  refine of77 hn ?_
  simp (disch := omega) [c77]
  refine CallK.of (by simp) (plus_call hn ia ia a a (by omega) (by omega) la la fun i l n' h1 h2 h3 h4 h5 h6 => ?_)
  simp (disch := omega) [h1]
  refine CallK.of (by simp) (Made_call' (by omega) na i l (by omega) h4 z ?_ ?_ fun i' hi' => ?_)
  · rw [h5, ← hz, Int.natAbs_mul, numW_abs]; simp; omega
  · rw [h5, ← hz]; intro hv; exact (numW_sign na a (by omega)).trans (by rw [decide_eq_decide]; omega)
  · have := hQ i' n' h1 (by rcases hi' with e | e; exact .inl e; subst e; exact .inr ⟨h2, h3⟩)
    simpa (disch := omega) [h1] using this

def halfI (na : Bool) (ia : Sid) (a : List Nat) (n : Nat) (k : Nat) (s : St) : Prop :=
  ∃ (i : Nat) (o : List Nat), i + k = a.length ∧ At s 37 [[.bool na, .sl ia 1 (u32s a)], [.bool false, .sl ⟨0, 0, 0⟩ 1 []]] (n + 1) [(1, .box 0 0), (2, .box 1 0), (3, .sl ⟨n, n, 0⟩ 1 (u32s o)), (4, .int .i64 i)] ∧ s.n0 = n ∧ o.length = a.length ∧ Lim o ∧ val (o.take i) + 4294967296 ^ i * (val (a.drop i) / 2) = val a / 2
theorem Half_call {n : Nat} (hn : 0 < n) (na : Bool) (ia : Sid) (hia : ia.f < n) (a : List Nat) (ha : a.length < 35184372088000) (la : Lim a) (z : Int) (hz : (numW na a).tdiv 2 = z) {Q : PV → Nat → List Nat → Prop}
    (hQ : ∀ (i : Sid) (n' : Nat), n ≤ n' → newSid n n' i → Q (W (decide (z < 0)) i (dig z.natAbs)) n' []) : PCall Tryd.prog 67 [W na ia a] n Q := by
  simp only [W] at hQ
  have hza : z.natAbs = val a / 2 := by rw [← hz, Int.natAbs_tdiv, numW_abs]; rfl
  have hzs : val a / 2 ≠ 0 → na = decide (z < 0) := by
    intro h
    rw [← hza] at h
    have e : (numW na a).tdiv 2 = shZ (numW na a) (-1) := rfl
    rw [e] at hz
    rw [← hz] at h ⊢
    rw [← shZ_sign _ _ h]
    exact numW_sign na a (by rw [shZ_abs, numW_abs] at h; simp at h; omega)
  have hi2 : ¬ ia.f = n ∧ ¬ n = 0 := by omega
  refine of67 hn ?_
  simp (disch := omega) [c67]
  refine ⟨by omega, ?_⟩
  refine GO_loopN (halfI na ia a n) a.length ⟨0, List.replicate a.length 0, by omega, by simp [At], by simp, by simp, Lim.replicate _, by simp⟩ ?_
  rintro k s ⟨i, o, hi, ⟨e1, e2, e3, e4, e5⟩, e0, hol, lo, hv⟩
  simp at e5
  obtain ⟨e5, e6, e7, e8⟩ := e5
  by_cases hk : i < a.length
  · have hx := la.getD i
    have hy := la.getD (i + 1)
    have hd := getD_drop a i
    have hd2 := getD_drop a (i + 1)
    generalize hxx : a.getD i 0 = x at *
    generalize hyy : a.getD (i + 1) 0 = y at *
    obtain ⟨t, ht⟩ : ∃ t, t = (y % 2 * 4294967296 + x) / 2 := ⟨_, rfl⟩
    obtain ⟨w, hw⟩ : ∃ w, w = y % 2 * 4294967296 := ⟨_, rfl⟩
    have hw1 : IntKind.u64.wrap ((y : Int).tmod 2 * 4294967296) = (w : Int) := by rw [Int.tmod_eq_emod_of_nonneg (by omega), wrap_u64_eq]; omega
    have hw2 : ((w : Int) + x).tdiv 2 = (t : Int) := by rw [Int.tdiv_eq_ediv_of_nonneg (by omega)]; omega
    have ht1 : IntKind.u32.wrap (t : Int) = (t : Int) := by rw [wrap_u32_eq]; omega
    have hio : i < o.length := by omega
    simp (disch := omega) [c67L0, e0, e1, e2, e3, e4, e5, e6, e7, e8, hk, hio]
    refine CallK.of (by simp) (limb_call (by omega) ia a (by omega) (i + 1) la ?_)
    rw [hyy]
    simp (disch := omega) [e0, e1, e2, e3, e4, e5, e6, e7, e8, hk, hio]
    refine CallK.of (by simp) (limb_call (by omega) ia a (by omega) i la ?_)
    rw [hxx]
    simp (disch := omega) [e0, e1, e2, e3, e4, e5, e6, e7, e8, hk, hio, hi2, hw1, hw2, ht1]
    refine ⟨k - 1, by omega, i + 1, o.set i t, by omega, ?_, by simp [e0], by simp [hol], lo.set _ (by omega), ?_⟩
    · refine ⟨by simp [e1], by simp (disch := omega) [e2, hi2], by simp [e3], by simp [e0, e4], ?_⟩
      intro pp hpp
      simp only [List.mem_cons, List.not_mem_nil, or_false] at hpp
      rcases hpp with e | e | e | e <;> subst e <;> simp (disch := omega) [e5, e6, e7, e8, hi2]
    · have ht2 : (o.set i t).take (i + 1) = o.take i ++ [t] := by
        rw [List.take_succ_eq_append_getElem (by simp; omega), List.take_set_of_le (Nat.le_refl _)]
        simp
      rw [ht2, val_append, List.length_take, Nat.min_eq_left (by omega), val_cons, val_nil, Nat.mul_zero, Nat.add_zero, Nat.pow_succ, ← hv, Nat.mul_assoc, Nat.add_assoc, ← Nat.mul_add]
      congr 2
      omega
  · have hia2 : i = a.length := by omega
    rw [List.take_of_length_le (by omega), List.drop_eq_nil_of_le (by omega)] at hv
    simp at hv
    simp (disch := omega) [c67L0, c67R0, e0, e1, e2, e3, e4, e5, e6, e7, e8, hk]
    refine CallK.of (by simp) (Made_call' (by omega) na ⟨n, n, 0⟩ o (by omega) lo z (by omega) (by rw [hv]; exact hzs) fun i' hi' => ?_)
    have := hQ i' (n + 1) (by omega) (by rcases hi' with e | e; exact .inl e; subst e; exact .inr ⟨by simp, by simp⟩)
    simpa (disch := omega) [e0, e1, e2, e3, e4, e5, e6, e7, e8] using this

theorem ansIs_ans (z : Int) : ansIs true z (ansN z) (ansL z) (ansE z) := ⟨by simp, by simp, by simp⟩
@[simp] theorem poison_nil1 (f' g off f z : Nat) (h : ¬ f' = f) : (PV.sl ⟨f', g, off⟩ z []).poison [f] = .sl ⟨f', g, off⟩ z [] := by simp [PV.poison, PV.poisonL, h]
/-! ### the reference's shift -/
theorem tdiv_tdiv_nat (x : Int) (a b : Nat) : (x.tdiv a).tdiv b = x.tdiv ((a * b : Nat) : Int) := by
  have key : ∀ n : Nat, ((n : Int).tdiv a).tdiv b = (n : Int).tdiv ((a * b : Nat) : Int) := fun n => by
    rw [← Int.ofNat_tdiv, ← Int.ofNat_tdiv, ← Int.ofNat_tdiv, Nat.div_div_eq_div_mul]
  by_cases h : 0 ≤ x
  · obtain ⟨n, rfl⟩ : ∃ n : Nat, x = n := ⟨x.toNat, by omega⟩
    exact key n
  · obtain ⟨n, rfl⟩ : ∃ n : Nat, x = -(n : Int) := ⟨(-x).toNat, by omega⟩
    rw [Int.neg_tdiv, Int.neg_tdiv, Int.neg_tdiv, key]
theorem pow_cast (k : Nat) : (2 : Int) ^ k = ((2 ^ k : Nat) : Int) := by simp
theorem shZ_up32 {x m : Int} (h : 32 ≤ m) : shZ (x * 4294967296) (m - 32) = shZ x m := by
  unfold shZ
  rw [if_pos (by omega), if_pos (by omega), show m.toNat = 32 + (m - 32).toNat by omega, Int.pow_add, Int.mul_assoc]; rfl
theorem shZ_up1 {x m : Int} (h : 0 < m) : shZ (x * 2) (m - 1) = shZ x m := by
  unfold shZ
  rw [if_pos (by omega), if_pos (by omega), show m.toNat = 1 + (m - 1).toNat by omega, Int.pow_add, Int.mul_assoc]; rfl
theorem shZ_down (x : Int) (k m : Nat) (hk : k ≤ m) : shZ (x.tdiv (2 ^ k)) (-((m - k : Nat) : Int)) = x.tdiv (2 ^ m) := by
  have key : ∀ j : Nat, shZ (x.tdiv (2 ^ k)) (-(j : Int)) = x.tdiv (2 ^ (k + j)) := fun j => by
    unfold shZ
    by_cases hj : j = 0
    · subst hj; simp
    · rw [if_neg (by omega), Int.neg_neg, Int.toNat_natCast, pow_cast, pow_cast, pow_cast, tdiv_tdiv_nat, Nat.pow_add]
  rw [key, show k + (m - k) = m by omega]
theorem shZ_down32 {x m : Int} (h : m ≤ -32) : shZ (x.tdiv 4294967296) (m + 32) = shZ x m := by
  have := shZ_down x 32 (-m).toNat (by omega)
  rw [show -(((-m).toNat - 32 : Nat) : Int) = m + 32 by omega] at this
  rw [show (2 : Int) ^ 32 = 4294967296 from rfl] at this
  rw [this]; unfold shZ; rw [if_neg (by omega)]
theorem shZ_down1 {x m : Int} (h : m < 0) : shZ (x.tdiv 2) (m + 1) = shZ x m := by
  have := shZ_down x 1 (-m).toNat (by omega)
  rw [show -(((-m).toNat - 1 : Nat) : Int) = m + 1 by omega] at this
  rw [show (2 : Int) ^ 1 = 2 from rfl] at this
  rw [this]; unfold shZ; rw [if_neg (by omega)]

theorem sz_of_shZ {x m z : Int} {k : Nat} (h : shZ x m = z) (hz : sz z k) (hm : 0 ≤ m) : sz x k := by
  have := shZ_abs x m
  rw [h, if_pos hm] at this
  have h2 : x.natAbs * 1 ≤ x.natAbs * 2 ^ m.toNat := Nat.mul_le_mul_left _ (Nat.pos_of_ne_zero (by simp))
  exact hz.le (by omega)
theorem shZ_sz {x m z : Int} {k j : Nat} (h : shZ x m = z) (hx : sz x k) (hm : m ≤ 32 * j) : sz z (k + j) := by
  have h1 := shZ_abs x m
  rw [h] at h1
  by_cases hm0 : 0 ≤ m
  · rw [if_pos hm0] at h1
    have h2 : 2 ^ m.toNat ≤ 4294967296 ^ j := by
      have e : (4294967296 : Nat) ^ j = 2 ^ (32 * j) := by rw [Nat.pow_mul]
      rw [e]
      exact Nat.pow_le_pow_right (by omega) (by omega)
    unfold sz at *
    rw [h1, Nat.pow_add]
    exact Nat.mul_lt_mul_of_lt_of_le hx h2 (Nat.pos_of_ne_zero (by simp))
  · rw [if_neg hm0] at h1
    have h3 := Nat.div_le_self x.natAbs (2 ^ (-m).toNat)
    exact (hx.le (by omega)).mono (by omega)
theorem dig_ne {x : Int} (h : ¬ x = 0) : 0 < (dig x.natAbs).length ∧ ¬ dig x.natAbs = [] := by
  have : ¬ dig x.natAbs = [] := fun e => by have := dig_eq_nil.1 e; omega
  exact ⟨List.length_pos_iff.2 this, this⟩
def RS (n : Nat) (z x m : Int) (s : St) : Prop :=
  ∃ (i : Sid) (nx : Nat), At s 63 [[.bool (decide (x < 0)), .sl i 1 (u32s (dig x.natAbs))], [.bool false, .sl ⟨0, 0, 0⟩ 1 []]] nx [(1, .int .i64 m), (2, .box 0 0), (4, .box 1 0)] ∧ n ≤ nx ∧ i.f < nx ∧ 0 < nx ∧ -16384 ≤ m ∧ m ≤ 16384 ∧ shZ x m = z ∧ sz x 1100 ∧ sz z 1100
section
variable {n : Nat} {z : Int} {Q : PV → Nat → List Nat → Prop} (hQ : ∀ (i : Sid) (n' : Nat), n ≤ n' → Q (.agg [.bool (decide (z < 0)), .sl i 1 (u32s (dig z.natAbs))]) n' [])
include hQ
theorem RS_0 {x m : Int} {s : St} (h : RS n z x m s) (h0 : m = 0 ∨ x = 0) : GO Tryd.prog c71R0 (fin Tryd.prog [.cell 4 30] n Q) s := by
  obtain ⟨i, nx, ⟨e1, e2, e3, e4, e5⟩, hnx, hix, hx0, hm1, hm2, hz, hx, hs⟩ := h
  simp at e5
  obtain ⟨e5, e6, e7⟩ := e5
  have hxz : x = z := by
    rcases h0 with e | e
    · subst e; rw [← hz, shZ_none]
    · subst e; rw [← hz, shZ_zero]
  subst hxz
  have := hQ i nx hnx
  simpa (disch := omega) [c71R0, e1, e2, e3, e4, e5, e6, e7] using ⟨by omega, this⟩
theorem RS_1 {x m : Int} {s : St} (h : RS n z x m s) (h0 : m ≤ 0 ∨ x = 0) : GO Tryd.prog c71R1 (fin Tryd.prog [.cell 4 30] n Q) s := by
  simp only [c71R1]
  simp (disch := omega) []
  refine GO_loopN (fun k s => ∃ x m, RS n z x m s ∧ (m ≤ 0 ∨ x = 0) ∧ k = m.natAbs) m.natAbs ⟨x, m, h, h0, rfl⟩ ?_
  clear h h0
  rintro k s ⟨x, m, h, h0, rfl⟩
  have H := h
  obtain ⟨i, nx, ⟨e1, e2, e3, e4, e5⟩, hnx, hix, hx0, hm1, hm2, hz, hx, hs⟩ := h
  simp at e5
  obtain ⟨e5, e6, e7⟩ := e5
  have hl := hx.len
  by_cases hm : m < 0
  · by_cases hxz : x = 0
    · have hd : dig x.natAbs = [] := by subst hxz; exact dig_zero
      simp (disch := omega) [c71L3, e1, e2, e3, e4, e5, e6, e7, hm, hd]
      exact RS_0 hQ (x := x) (m := m) ⟨i, nx, by simp [At, e1, e2, e3, e4, e5, e6, e7, hd], hnx, hix, hx0, hm1, hm2, hz, hx, hs⟩ (.inr hxz)
    · obtain ⟨hd, hd2⟩ := dig_ne hxz
      have hw : IntKind.i64.wrap (m + 1) = m + 1 := wrap_i64_is rfl (by omega)
      simp (disch := omega) [c71L3, e1, e2, e3, e4, e5, e6, e7, hm, hd, hd2]
      obtain ⟨y, hy⟩ : ∃ y, y = x.tdiv 2 := ⟨_, rfl⟩
      have hys : y.natAbs ≤ x.natAbs := by rw [hy, Int.natAbs_tdiv]; exact Nat.div_le_self _ _
      refine CallK.of (by simp) (Half_call (by omega) _ i hix _ (by omega) (Lim.dig _) y (by rw [numW_dig, hy]) fun i' n' h1 h2 => ?_)
      simp (disch := omega) [e1, e2, e3, e4, e5, e6, e7, hw]
      exact ⟨(m + 1).natAbs, by omega, y, m + 1, ⟨i', n', by simp [At, e1, e2, e3, e4, e5, e6, e7], by omega, newSid_lt h2 (by omega), by omega, by omega, by omega, by rw [hy, shZ_down1 hm, hz], hx.le hys, hs⟩, by omega, rfl⟩
  · simp (disch := omega) [c71L3, e1, e2, e3, e4, e5, e6, e7, hm]
    exact RS_0 hQ (x := x) (m := m) ⟨i, nx, by simp [At, e1, e2, e3, e4, e5, e6, e7], hnx, hix, hx0, hm1, hm2, hz, hx, hs⟩ (by omega)
theorem RS_2 {x m : Int} {s : St} (h : RS n z x m s) (h0 : m ≤ 0 ∨ x = 0) : GO Tryd.prog c71R2 (fin Tryd.prog [.cell 4 30] n Q) s := by
  simp only [c71R2]
  simp (disch := omega) []
  refine GO_loopN (fun k s => ∃ x m, RS n z x m s ∧ (m ≤ 0 ∨ x = 0) ∧ k = m.natAbs) m.natAbs ⟨x, m, h, h0, rfl⟩ ?_
  clear h h0
  rintro k s ⟨x, m, h, h0, rfl⟩
  have H := h
  obtain ⟨i, nx, ⟨e1, e2, e3, e4, e5⟩, hnx, hix, hx0, hm1, hm2, hz, hx, hs⟩ := h
  simp at e5
  obtain ⟨e5, e6, e7⟩ := e5
  have hl := hx.len
  by_cases hm : m ≤ -32
  · by_cases hxz : x = 0
    · have hd : dig x.natAbs = [] := by subst hxz; exact dig_zero
      simp (disch := omega) [c71L2, e1, e2, e3, e4, e5, e6, e7, hm, hd]
      exact RS_1 hQ (x := x) (m := m) ⟨i, nx, by simp [At, e1, e2, e3, e4, e5, e6, e7, hd], hnx, hix, hx0, hm1, hm2, hz, hx, hs⟩ (.inr hxz)
    · obtain ⟨hd, hd2⟩ := dig_ne hxz
      have hw : IntKind.i64.wrap (m + 32) = m + 32 := wrap_i64_is rfl (by omega)
      have hm' : m < 0 := by omega
      obtain ⟨l1, hl1⟩ : ∃ l1, l1 = (dig x.natAbs).tail := ⟨_, rfl⟩
      have hll : l1.length ≤ 1100 := by rw [hl1]; simp; omega
      have llm : Lim l1 := by rw [hl1, ← List.drop_one]; exact (Lim.dig _).drop 1
      simp (disch := omega) [c71L2, e1, e2, e3, e4, e5, e6, e7, hm, hd, hd2, ← hl1]
      obtain ⟨y, hy⟩ : ∃ y, y = x.tdiv 4294967296 := ⟨_, rfl⟩
      have hya : y.natAbs = x.natAbs / 4294967296 := by rw [hy, Int.natAbs_tdiv]; rfl
      have hys : y.natAbs ≤ x.natAbs := by omega
      have hsg : y.natAbs ≠ 0 → decide (x < 0) = decide (y < 0) := by
        intro h
        have e : x.tdiv 4294967296 = shZ x (-32) := rfl
        rw [hy, e] at h ⊢
        exact shZ_sign _ _ h
      have hv1 : val l1 = y.natAbs := by
        rw [hl1, dig_pos (by omega), List.tail_cons, val_dig, hya]
      refine CallK.of (by simp) (Made_call' (by omega) _ ⟨i.f, i.g, i.off + 1⟩ l1 (by omega) llm y hv1 (by rw [hv1]; exact hsg) fun i' hi' => ?_)
      simp (disch := omega) [e1, e2, e3, e4, e5, e6, e7, hw]
      exact ⟨(m + 32).natAbs, by omega, y, m + 32, ⟨i', nx, by simp [At, e1, e2, e3, e4, e5, e6, e7], by omega, by rcases hi' with e | e <;> subst e <;> simp <;> omega, by omega, by omega, by omega, by rw [hy, shZ_down32 hm, hz], hx.le hys, hs⟩, by omega, rfl⟩
  · simp (disch := omega) [c71L2, e1, e2, e3, e4, e5, e6, e7, hm]
    exact RS_1 hQ (x := x) (m := m) ⟨i, nx, by simp [At, e1, e2, e3, e4, e5, e6, e7], hnx, hix, hx0, hm1, hm2, hz, hx, hs⟩ h0
theorem RS_3 {x m : Int} {s : St} (h : RS n z x m s) : GO Tryd.prog c71R3 (fin Tryd.prog [.cell 4 30] n Q) s := by
  simp only [c71R3]
  simp (disch := omega) []
  refine GO_loopN (fun k s => ∃ x m, RS n z x m s ∧ k = m.natAbs) m.natAbs ⟨x, m, h, rfl⟩ ?_
  clear h
  rintro k s ⟨x, m, h, rfl⟩
  have H := h
  obtain ⟨i, nx, ⟨e1, e2, e3, e4, e5⟩, hnx, hix, hx0, hm1, hm2, hz, hx, hs⟩ := h
  simp at e5
  obtain ⟨e5, e6, e7⟩ := e5
  have hl := hx.len
  by_cases hm : 0 < m
  · by_cases hxz : x = 0
    · have hd : dig x.natAbs = [] := by subst hxz; exact dig_zero
      simp (disch := omega) [c71L1, e1, e2, e3, e4, e5, e6, e7, hm, hd]
      exact RS_2 hQ (x := x) (m := m) ⟨i, nx, by simp [At, e1, e2, e3, e4, e5, e6, e7, hd], hnx, hix, hx0, hm1, hm2, hz, hx, hs⟩ (.inr hxz)
    · obtain ⟨hd, hd2⟩ := dig_ne hxz
      have hw : IntKind.i64.wrap (m - 1) = m - 1 := wrap_i64_is rfl (by omega)
      simp (disch := omega) [c71L1, e1, e2, e3, e4, e5, e6, e7, hm, hd, hd2]
      obtain ⟨y, hy⟩ : ∃ y, y = x * 2 := ⟨_, rfl⟩
      have hyz : shZ y (m - 1) = z := by rw [hy, shZ_up1 hm, hz]
      refine CallK.of (by simp) (Double_call (by omega) _ i _ (by omega) (Lim.dig _) y (by rw [numW_dig, hy]) fun i' n' h1 h2 => ?_)
      simp (disch := omega) [e1, e2, e3, e4, e5, e6, e7, hw]
      exact ⟨(m - 1).natAbs, by omega, y, m - 1, ⟨i', n', by simp [At, e1, e2, e3, e4, e5, e6, e7], by omega, newSid_lt h2 (by omega), by omega, by omega, by omega, hyz, sz_of_shZ hyz hs (by omega), hs⟩, rfl⟩
  · simp (disch := omega) [c71L1, e1, e2, e3, e4, e5, e6, e7, hm]
    exact RS_2 hQ (x := x) (m := m) ⟨i, nx, by simp [At, e1, e2, e3, e4, e5, e6, e7], hnx, hix, hx0, hm1, hm2, hz, hx, hs⟩ (.inl (by omega))
theorem RS_4 {x m : Int} {s : St} (h : RS n z x m s) : GO Tryd.prog (.loop c71L0) (PExit.inBlock 0 (PExit.then (GO Tryd.prog c71R3 (fin Tryd.prog [.cell 4 30] n Q)) (fin Tryd.prog [.cell 4 30] n Q))) s := by
  refine GO_loopN (fun k s => ∃ x m, RS n z x m s ∧ k = m.natAbs) m.natAbs ⟨x, m, h, rfl⟩ ?_
  clear h
  rintro k s ⟨x, m, h, rfl⟩
  have H := h
  obtain ⟨i, nx, ⟨e1, e2, e3, e4, e5⟩, hnx, hix, hx0, hm1, hm2, hz, hx, hs⟩ := h
  simp at e5
  obtain ⟨e5, e6, e7⟩ := e5
  have hl := hx.len
  by_cases hm : 32 ≤ m
  · by_cases hxz : x = 0
    · have hd : dig x.natAbs = [] := by subst hxz; exact dig_zero
      simp (disch := omega) [c71L0, e1, e2, e3, e4, e5, e6, e7, hm, hd]
      exact RS_3 hQ (x := x) (m := m) ⟨i, nx, by simp [At, e1, e2, e3, e4, e5, e6, e7, hd], hnx, hix, hx0, hm1, hm2, hz, hx, hs⟩ 
    · obtain ⟨hd, hd2⟩ := dig_ne hxz
      have hw : IntKind.i64.wrap (m - 32) = m - 32 := wrap_i64_is rfl (by omega)
      simp (disch := omega) [c71L0, e1, e2, e3, e4, e5, e6, e7, hm, hd, hd2]
      obtain ⟨y, hy⟩ : ∃ y, y = x * 4294967296 := ⟨_, rfl⟩
      have hyz : shZ y (m - 32) = z := by rw [hy, shZ_up32 hm, hz]
      refine ⟨by omega, ?_⟩
      refine CallK.of (by simp) (Made_call' (by omega) _ _ (0 :: dig x.natAbs) (by simp; omega) (by intro w hw; rcases List.mem_cons.1 hw with e | e; omega; exact Lim.dig _ w e) y (by rw [val_cons, val_dig, hy, Int.natAbs_mul]; simp; omega) (fun _ => by rw [hy, decide_eq_decide]; omega) fun i' hi' => ?_)
      simp (disch := omega) [e1, e2, e3, e4, e5, e6, e7, hw]
      exact ⟨(m - 32).natAbs, by omega, y, m - 32, ⟨i', nx + 2, by simp [At, e1, e2, e3, e4, e5, e6, e7], by omega, by rcases hi' with e | e <;> subst e <;> simp <;> omega, by omega, by omega, by omega, hyz, sz_of_shZ hyz hs (by omega), hs⟩, rfl⟩
  · simp (disch := omega) [c71L0, e1, e2, e3, e4, e5, e6, e7, hm]
    exact RS_3 hQ (x := x) (m := m) ⟨i, nx, by simp [At, e1, e2, e3, e4, e5, e6, e7], hnx, hix, hx0, hm1, hm2, hz, hx, hs⟩ 
end
theorem RefShift_call {n : Nat} (hn : 0 < n) (x : Int) (ia : Sid) (hia : ia.f < n) (hx : sz x 512) (m : Int) (hm : -16384 ≤ m ∧ m ≤ 16384) (z : Int) (hz : shZ x m = z) {Q : PV → Nat → List Nat → Prop}
    (hQ : ∀ (i : Sid) (n' : Nat), n ≤ n' → Q (W (decide (z < 0)) i (dig z.natAbs)) n' []) : PCall Tryd.prog 71 [W (decide (x < 0)) ia (dig x.natAbs), .int .i64 m] n Q := by
  have hzs : sz z 1100 := (shZ_sz (j := 512) hz hx (by omega)).mono (by omega)
  simp only [W] at hQ
  refine of71 hn ?_
  simp (disch := omega) [c71]
  exact RS_4 hQ (x := x) (m := m) ⟨ia, n, by simp [At], by omega, hia, by omega, by omega, by omega, hz, hx.mono (by omega), hzs⟩
theorem Shift_Z {n : Nat} (hn : 0 < n) (x z b : Int) (ia : Sid) (hx : sz x 512) (hz : shZ x b = z) (hzs : sz z 512) (hb : -16384 ≤ b ∧ b ≤ 16384) {Q : PV → Nat → List Nat → Prop}
    (hQ : ∀ (i : Sid) (n' : Nat), n ≤ n' → newSid n n' i → Q (.tup [W (decide (z < 0)) i (dig z.natAbs), .int .i64 0]) n' []) : PCall Tryd.prog 47 [W (decide (x < 0)) ia (dig x.natAbs), .int .i64 b] n Q := by
  have h1 := hx.len
  have h2 := rightW_Z h1
  refine Shift_call hn _ ia _ (by omega) (Lim.dig _) b (by omega) (fun h => by rw [h2] at h; cases h) (fun _ h => by omega) (fun _ _ i n' k1 k2 => ?_)
  rw [numW_dig, hz]
  obtain ⟨e1, e2, e3⟩ := ansIs_Z (ansIs_ans z) hzs.len
  rw [e1, e2, e3]
  exact hQ i n' k1 k2
theorem shZ_back (x : Int) (m : Nat) : shZ (shZ x m) (-(m : Int)) = x := by
  have h0 : shZ x m = x * 2 ^ m := by unfold shZ; rw [if_pos (by omega), Int.toNat_natCast]
  by_cases hm : m = 0
  · subst hm; simp [shZ]
  · rw [h0]
    unfold shZ
    rw [if_neg (by omega), Int.neg_neg, Int.toNat_natCast]
    exact Int.mul_tdiv_cancel _ (by have := two_pow_pos' m; omega)
end Go.Proofs.YtdaoblhmnafllaaDoor
