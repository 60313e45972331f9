/- What the functions of layer 1 do, by value: sums and differences. -/
import Derived.Test.YtdaoblhmnafllaaDoorCtC
set_option linter.unusedVariables false
set_option linter.unusedSimpArgs false
namespace Go.Proofs.YtdaoblhmnafllaaDoor
open Go.Proofs

/-- What a number is worth. -/
def numW (neg : Bool) (l : List Nat) : Int := if neg then -(val l : Int) else val l
/-- An answer's parts, if there are not too many limbs. -/
def big (z : Int) : Bool := decide (512 < (dig z.natAbs).length)
def ansN (z : Int) : Bool := !big z && decide (z < 0)
def ansL (z : Int) : List Nat := if big z then [] else dig z.natAbs
def ansE (z : Int) : Int := if big z then 2 else 0

theorem of_call' {n : Nat} (hn : 0 < n) (neg : Bool) (i : Sid) (l : List Nat) (hl : l.length < 1152921504606846976) (ll : Lim l) (z : Int) (h : val l = z.natAbs) (hs : val l ≠ 0 → neg = decide (z < 0)) {Q : PV → Nat → List Nat → Prop}
    (hQ : ∀ i', i' = ⟨0, 0, 0⟩ ∨ i' = i → Q (.tup [W (ansN z) i' (ansL z), .int .i64 (ansE z)]) n []) : PCall Tryd.prog 62 [.bool neg, .sl i 1 (u32s l)] n Q := by
  refine of_call hn neg i l hl ?_
  rw [trim_dig ll, h]
  by_cases hb : 512 < (dig z.natAbs).length
  · rw [if_pos hb]
    have := hQ ⟨0, 0, 0⟩ (.inl rfl)
    simpa [ansN, ansL, ansE, big, hb, W] using this
  · rw [if_neg hb]
    by_cases hz : z = 0
    · have := hQ ⟨0, 0, 0⟩ (.inl rfl)
      subst hz
      simpa [ansN, ansL, ansE, big, dig_zero, WT, W] using this
    · have := hQ i (.inr rfl)
      have hne : ¬ dig z.natAbs = [] := fun e => hz (by have := dig_eq_nil.1 e; omega)
      rw [WT, if_neg hne, hs (by omega)]
      simpa [ansN, ansL, ansE, big, hb, W] using this
theorem Made_call {n : Nat} (hn : 0 < n) (neg : Bool) (i : Sid) (l : List Nat) (hl : l.length < 1152921504606846976) {Q : PV → Nat → List Nat → Prop}
    (hQ : Q (WT neg i (trimL l)) n []) : PCall Tryd.prog 66 [.bool neg, .sl i 1 (u32s l)] n Q := by
  refine of66 hn ?_
  simp [c66]
  refine GO_loopN (fun k s => k ≤ l.length ∧ trimL (l.take k) = trimL l ∧ At s 28 [[.bool false, .sl ⟨0, 0, 0⟩ 1 []]] n [(0, .bool neg), (1, .sl i 1 (u32s l)), (4, .box 0 0), (5, .int .i64 k)]) l.length ⟨by omega, by simp, by simp [At]⟩ ?_
  rintro k s ⟨hk, ht, ⟨e1, e2, e3, e4, e5⟩⟩
  simp at e5
  obtain ⟨e5, e6, e7, e8⟩ := e5
  cases k with
  | zero =>
    simp [trimL] at ht
    have ht : trimL l = [] := by first | exact ht | exact ht.symm
    simp [ht, WT, W] at hQ
    simpa [c66L0, c66R0, e1, e2, e3, e4, e5, e6, e7, e8] using hQ
  | succ j =>
    have hj : j < l.length := by omega
    have hw : IntKind.i64.wrap ((j : Int) + 1 - 1) = (j : Int) := by rw [wrap_i64_at _ (by omega)]; omega
    rw [List.take_succ_eq_append_getElem hj] at ht
    by_cases hx : l[j] = 0
    · rw [hx, trim_snoc_zero] at ht
      simp (disch := omega) [c66L0, c66R0, e1, e2, e3, e4, e5, e6, e7, e8, hj, hx, hw]
      exact ⟨j, by omega, by omega, ht, by simp [At, e1, e2, e3, e4, e5, e6, e7, e8]⟩
    · rw [trim_snoc hx] at ht
      have hne : ¬ trimL l = [] := by rw [← ht]; exact List.append_ne_nil_of_right_ne_nil _ (by simp)
      simp only [WT, if_neg hne] at hQ
      rw [← ht, ← List.take_succ_eq_append_getElem hj] at hQ
      have hz : sliceP 1 i (u32s l) 0 ((j : Int) + 1) = some (.sl i 1 (u32s (l.take (j + 1)))) := sliceP_zero_u32 i l (j + 1) (by omega)
      have hp : ((j : Int) + 1 == 0) = false := by rw [beq_eq_false_iff_ne]; omega
      simpa (disch := omega) [c66L0, c66R0, e1, e2, e3, e4, e5, e6, e7, e8, hj, hx, hw, hz, hp, W] using hQ
theorem Made_call' {n : Nat} (hn : 0 < n) (neg : Bool) (i : Sid) (l : List Nat) (hl : l.length < 1152921504606846976) (ll : Lim l) (z : Int) (h : val l = z.natAbs) (hs : val l ≠ 0 → neg = decide (z < 0)) {Q : PV → Nat → List Nat → Prop}
    (hQ : ∀ i', i' = ⟨0, 0, 0⟩ ∨ i' = i → Q (W (decide (z < 0)) i' (dig z.natAbs)) n []) : PCall Tryd.prog 66 [.bool neg, .sl i 1 (u32s l)] n Q := by
  refine Made_call hn neg i l hl ?_
  rw [trim_dig ll, h]
  by_cases hz : z = 0
  · have := hQ ⟨0, 0, 0⟩ (.inl rfl)
    subst hz
    simpa [dig_zero, WT, W] using this
  · have := hQ i (.inr rfl)
    have hne : ¬ dig z.natAbs = [] := fun e => hz (by have := dig_eq_nil.1 e; omega)
    rw [WT, if_neg hne, hs (by omega)]
    exact this

theorem numW_abs (neg : Bool) (l : List Nat) : (numW neg l).natAbs = val l := by unfold numW; split <;> omega
/-- Where a new answer's limbs may lie. -/
def newSid (n n' : Nat) (i : Sid) : Prop := i = ⟨0, 0, 0⟩ ∨ n ≤ i.f ∧ i.f < n'
theorem sizeL_neg {a b : List Nat} (la : Lim a) (lb : Lim b) (ta : topOk a) (tb : topOk b) : sizeL a b < 0 ↔ val a < val b := by
  unfold sizeL
  by_cases h1 : a.length < b.length
  · have := val_lt_len la tb h1; simp [h1, this]
  · by_cases h2 : b.length < a.length
    · have := val_lt_len lb ta h2; simp [h1, h2]; omega
    · simp only [h1, h2, if_false]
      by_cases h3 : val a < val b
      · simp [h3]
      · simp only [h3, if_false]; split <;> simp
theorem sizeL_len {a b : List Nat} (la : Lim a) (lb : Lim b) (ta : topOk a) (tb : topOk b) (h : val a ≤ val b) : a.length ≤ b.length := by
  by_cases h2 : b.length < a.length
  · have := val_lt_len lb ta h2; omega
  · omega
/-- What Add and Sub answer. -/
def addOk (na nb : Bool) (a b : List Nat) : Bool := rightW na a && rightW nb b
theorem rightW_top {neg : Bool} {l : List Nat} (h : rightW neg l = true) : topOk l ∧ l.length ≤ 512 ∧ (l = [] → neg = false) := by
  simp [rightW] at h
  exact ⟨h.2, h.1.1, fun e => by have := h.1.2; simp [e] at this; exact this⟩
end Go.Proofs.YtdaoblhmnafllaaDoor
