/- What the functions of layer 1 do, by value: sums and differences. -/
import Derived.Test.YtcdkgeeookcoeaaCtC
set_option linter.unusedVariables false
set_option linter.unusedSimpArgs false
namespace Go.Proofs.Ytcdkgeeookcoeaa
open Go.Proofs

/-- What a number is worth. -/
def numW (neg : Bool) (l : List Nat) : Int := if neg then -(val l : Int) else val l
/-- An answer's parts, if there are not too many limbs. -/
def big (z : Int) : Bool := decide (512 < (dig z.natAbs).length)
def ansN (z : Int) : Bool := !big z && decide (z < 0)
def ansL (z : Int) : List Nat := if big z then [] else dig z.natAbs
def ansE (z : Int) : Int := if big z then 2 else 0

theorem of_call' {n : Nat} (hn : 0 < n) (neg : Bool) (i : Sid) (l : List Nat) (hl : l.length < 1152921504606846976) (ll : Lim l) (z : Int) (h : val l = z.natAbs) (hs : val l ≠ 0 → neg = decide (z < 0)) {Q : PV → Nat → List Nat → Prop}
    (hQ : ∀ i', i' = ⟨0, 0, 0⟩ ∨ i' = i → Q (.tup [W (ansN z) i' (ansL z), .int .i64 (ansE z)]) n []) : PCall Try.prog 55 [.bool neg, .sl i 1 (u32s l)] n Q := by
  refine of_call hn neg i l hl ?_
  rw [trim_dig ll, h]
  by_cases hb : 512 < (dig z.natAbs).length
  · rw [if_pos hb]
    have := hQ ⟨0, 0, 0⟩ (.inl rfl)
    simpa [ansN, ansL, ansE, big, hb, W] using this
  · rw [if_neg hb]
    by_cases hz : z = 0
    · have := hQ ⟨0, 0, 0⟩ (.inl rfl)
      subst hz
      simpa [ansN, ansL, ansE, big, dig_zero, WT, W] using this
    · have := hQ i (.inr rfl)
      have hne : ¬ dig z.natAbs = [] := fun e => hz (by have := dig_eq_nil.1 e; omega)
      rw [WT, if_neg hne, hs (by omega)]
      simpa [ansN, ansL, ansE, big, hb, W] using this
theorem Made_call {n : Nat} (hn : 0 < n) (neg : Bool) (i : Sid) (l : List Nat) (hl : l.length < 1152921504606846976) {Q : PV → Nat → List Nat → Prop}
    (hQ : Q (WT neg i (trimL l)) n []) : PCall Try.prog 39 [.bool neg, .sl i 1 (u32s l)] n Q := by
  refine of39 hn ?_
  simp [c39]
  refine GO_loopN (fun k s => k ≤ l.length ∧ trimL (l.take k) = trimL l ∧ At s 28 [[.bool false, .sl ⟨0, 0, 0⟩ 1 []]] n [(0, .bool neg), (1, .sl i 1 (u32s l)), (4, .box 0 0), (5, .int .i64 k)]) l.length ⟨by omega, by simp, by simp [At]⟩ ?_
  rintro k s ⟨hk, ht, ⟨e1, e2, e3, e4, e5⟩⟩
  simp at e5
  obtain ⟨e5, e6, e7, e8⟩ := e5
  cases k with
  | zero =>
    simp [trimL] at ht
    have ht : trimL l = [] := by first | exact ht | exact ht.symm
    simp [ht, WT, W] at hQ
    simpa [c39L0, c39R0, e1, e2, e3, e4, e5, e6, e7, e8] using hQ
  | succ j =>
    have hj : j < l.length := by omega
    have hw : IntKind.i64.wrap ((j : Int) + 1 - 1) = (j : Int) := by rw [wrap_i64_at _ (by omega)]; omega
    rw [List.take_succ_eq_append_getElem hj] at ht
    by_cases hx : l[j] = 0
    · rw [hx, trim_snoc_zero] at ht
      simp (disch := omega) [c39L0, c39R0, e1, e2, e3, e4, e5, e6, e7, e8, hj, hx, hw]
      exact ⟨j, by omega, by omega, ht, by simp [At, e1, e2, e3, e4, e5, e6, e7, e8]⟩
    · rw [trim_snoc hx] at ht
      have hne : ¬ trimL l = [] := by rw [← ht]; exact List.append_ne_nil_of_right_ne_nil _ (by simp)
      simp only [WT, if_neg hne] at hQ
      rw [← ht, ← List.take_succ_eq_append_getElem hj] at hQ
      have hz : sliceP 1 i (u32s l) 0 ((j : Int) + 1) = some (.sl i 1 (u32s (l.take (j + 1)))) := sliceP_zero_u32 i l (j + 1) (by omega)
      have hp : ((j : Int) + 1 == 0) = false := by rw [beq_eq_false_iff_ne]; omega
      simpa (disch := omega) [c39L0, c39R0, e1, e2, e3, e4, e5, e6, e7, e8, hj, hx, hw, hz, hp, W] using hQ
theorem Made_call' {n : Nat} (hn : 0 < n) (neg : Bool) (i : Sid) (l : List Nat) (hl : l.length < 1152921504606846976) (ll : Lim l) (z : Int) (h : val l = z.natAbs) (hs : val l ≠ 0 → neg = decide (z < 0)) {Q : PV → Nat → List Nat → Prop}
    (hQ : ∀ i', i' = ⟨0, 0, 0⟩ ∨ i' = i → Q (W (decide (z < 0)) i' (dig z.natAbs)) n []) : PCall Try.prog 39 [.bool neg, .sl i 1 (u32s l)] n Q := by
  refine Made_call hn neg i l hl ?_
  rw [trim_dig ll, h]
  by_cases hz : z = 0
  · have := hQ ⟨0, 0, 0⟩ (.inl rfl)
    subst hz
    simpa [dig_zero, WT, W] using this
  · have := hQ i (.inr rfl)
    have hne : ¬ dig z.natAbs = [] := fun e => hz (by have := dig_eq_nil.1 e; omega)
    rw [WT, if_neg hne, hs (by omega)]
    exact this

theorem numW_abs (neg : Bool) (l : List Nat) : (numW neg l).natAbs = val l := by unfold numW; split <;> omega
/-- Where a new answer's limbs may lie. -/
def newSid (n n' : Nat) (i : Sid) : Prop := i = ⟨0, 0, 0⟩ ∨ n ≤ i.f ∧ i.f < n'
theorem sizeL_neg {a b : List Nat} (la : Lim a) (lb : Lim b) (ta : topOk a) (tb : topOk b) : sizeL a b < 0 ↔ val a < val b := by
  unfold sizeL
  by_cases h1 : a.length < b.length
  · have := val_lt_len la tb h1; simp [h1, this]
  · by_cases h2 : b.length < a.length
    · have := val_lt_len lb ta h2; simp [h1, h2]; omega
    · simp only [h1, h2, if_false]
      by_cases h3 : val a < val b
      · simp [h3]
      · simp only [h3, if_false]; split <;> simp
theorem sizeL_len {a b : List Nat} (la : Lim a) (lb : Lim b) (ta : topOk a) (tb : topOk b) (h : val a ≤ val b) : a.length ≤ b.length := by
  by_cases h2 : b.length < a.length
  · have := val_lt_len lb ta h2; omega
  · omega
theorem add_call {n : Nat} (hn : 0 < n) (na nb : Bool) (ia ib : Sid) (a b : List Nat) (ha : a.length < 35184372088800) (hb : b.length < 35184372088800) (la : Lim a) (lb : Lim b) (ta : topOk a) (tb : topOk b) {Q : PV → Nat → List Nat → Prop}
    (hQ : ∀ (i : Sid) (n' : Nat), n ≤ n' → newSid n n' i → Q (.tup [W (ansN (numW na a + numW nb b)) i (ansL (numW na a + numW nb b)), .int .i64 (ansE (numW na a + numW nb b))]) n' []) : PCall Try.prog 57 [W na ia a, W nb ib b] n Q := by
  have fin : ∀ (i i' : Sid) (n' : Nat), n ≤ n' → n ≤ i.f → i.f < n' → i' = ⟨0, 0, 0⟩ ∨ i' = i → Q (.tup [W (ansN (numW na a + numW nb b)) i' (ansL (numW na a + numW nb b)), .int .i64 (ansE (numW na a + numW nb b))]) n' [] := by
    intro i i' n' h1 h2 h3 h
    refine hQ i' n' h1 ?_
    rcases h with h | h
    · exact .inl h
    · subst h; exact .inr ⟨h2, h3⟩
  generalize hz : numW na a + numW nb b = z at fin
  simp only [W] at fin
  refine of57 hn ?_
  by_cases hs : na = nb
  · subst hs
    simp (disch := omega) [c57]
    refine CallK.of (by simp) (up_call hn ia ib a b ha hb la lb fun i l n' h1 h2 h3 h4 h5 h6 => ?_)
    simp (disch := omega) []
    refine CallK.of (by simp) (of_call' (by omega) na i l (by omega) h4 z ?_ ?_ fun i' hi' => ?_)
    · rw [h5, ← hz]; unfold numW; split <;> omega
    · rw [h5, ← hz]; intro hv; unfold numW; cases na <;> simp <;> omega
    · simpa [h1] using fin i i' n' h1 h2 h3 hi'
  · have hs' : nb = !na := by cases na <;> cases nb <;> simp at hs ⊢
    have hx : (na == nb) = false := by simpa using hs
    simp (disch := omega) [c57, hx, hs]
    refine CallK.of (by simp) (size_call hn ia ib a b ha hb la lb ?_)
    have hsl := sizeL_neg la lb ta tb
    by_cases hc : val a < val b
    · have hc' := hsl.2 hc
      simp (disch := omega) [hc']
      refine CallK.of (by simp) (down_call hn ib ia b a hb ha lb la fun i l n' h1 h2 h3 h4 h5 h6 => ?_)
      have h5 := h5 (sizeL_len la lb ta tb (by omega)) (by omega)
      simp (disch := omega) []
      refine CallK.of (by simp) (of_call' (by omega) nb i l (by omega) h4 z ?_ ?_ fun i' hi' => ?_)
      · rw [h5, ← hz, hs']; unfold numW; cases na <;> simp <;> omega
      · rw [h5, ← hz, hs']; intro hv; unfold numW; cases na <;> simp <;> omega
      · simpa [h1] using fin i i' n' h1 h2 h3 hi'
    · have hc' : ¬ sizeL a b < 0 := fun e => hc (hsl.1 e)
      simp (disch := omega) [hc']
      refine CallK.of (by simp) (down_call hn ia ib a b ha hb la lb fun i l n' h1 h2 h3 h4 h5 h6 => ?_)
      have h5 := h5 (sizeL_len lb la tb ta (by omega)) (by omega)
      simp (disch := omega) []
      refine CallK.of (by simp) (of_call' (by omega) na i l (by omega) h4 z ?_ ?_ fun i' hi' => ?_)
      · rw [h5, ← hz, hs']; unfold numW; cases na <;> simp <;> omega
      · rw [h5, ← hz, hs']; intro hv; unfold numW; cases na <;> simp <;> omega
      · simpa [h1] using fin i i' n' h1 h2 h3 hi'

/-- What Add and Sub answer. -/
def addOk (na nb : Bool) (a b : List Nat) : Bool := rightW na a && rightW nb b
theorem rightW_top {neg : Bool} {l : List Nat} (h : rightW neg l = true) : topOk l ∧ l.length ≤ 512 ∧ (l = [] → neg = false) := by
  simp [rightW] at h
  exact ⟨h.2, h.1.1, fun e => by have := h.1.2; simp [e] at this; exact this⟩
theorem Add_call {n : Nat} (hn : 0 < n) (na nb : Bool) (ia ib : Sid) (a b : List Nat) (ha : a.length < 35184372088800) (hb : b.length < 35184372088800) (la : Lim a) (lb : Lim b) {Q : PV → Nat → List Nat → Prop}
    (h0 : (rightW na a && rightW nb b) = false → Q (.tup [W false ⟨0, 0, 0⟩ [], .int .i64 1]) n [])
    (hQ : (rightW na a && rightW nb b) = true → ∀ (i : Sid) (n' : Nat), n ≤ n' → newSid n n' i → Q (.tup [W (ansN (numW na a + numW nb b)) i (ansL (numW na a + numW nb b)), .int .i64 (ansE (numW na a + numW nb b))]) n' []) : PCall Try.prog 49 [W na ia a, W nb ib b] n Q := by
  refine of49 hn ?_
  simp (disch := omega) [c49]
  refine CallK.of (by simp) (two_call hn na nb ia ib a b (by omega) (by omega) ?_)
  by_cases hr : (rightW na a && rightW nb b) = true
  · have hQ := hQ hr
    simp only [Bool.and_eq_true] at hr
    simp (disch := omega) [hr]
    refine CallK.of (by simp) (add_call hn na nb ia ib a b ha hb la lb (rightW_top hr.1).1 (rightW_top hr.2).1 fun i n' h1 h2 => ?_)
    simp only [W] at hQ
    simpa [h1] using hQ i n' h1 h2
  · rw [Bool.not_eq_true] at hr
    have h0 := h0 hr
    simp only [W] at h0
    rw [hr]
    simpa using h0
theorem Sub_call {n : Nat} (hn : 0 < n) (na nb : Bool) (ia ib : Sid) (a b : List Nat) (ha : a.length < 35184372088800) (hb : b.length < 35184372088800) (la : Lim a) (lb : Lim b) {Q : PV → Nat → List Nat → Prop}
    (h0 : (rightW na a && rightW nb b) = false → Q (.tup [W false ⟨0, 0, 0⟩ [], .int .i64 1]) n [])
    (hQ : (rightW na a && rightW nb b) = true → ∀ (i : Sid) (n' : Nat), n ≤ n' → newSid n n' i → Q (.tup [W (ansN (numW na a - numW nb b)) i (ansL (numW na a - numW nb b)), .int .i64 (ansE (numW na a - numW nb b))]) n' []) : PCall Try.prog 48 [W na ia a, W nb ib b] n Q := by
  refine of48 hn ?_
  simp (disch := omega) [c48]
  refine CallK.of (by simp) (two_call hn na nb ia ib a b (by omega) (by omega) ?_)
  by_cases hr : (rightW na a && rightW nb b) = true
  · have hQ := hQ hr
    simp only [Bool.and_eq_true] at hr
    have hnum : numW na a - numW nb b = numW na a + numW (!nb && decide (0 < b.length)) b := by
      have : numW (!nb && decide (0 < b.length)) b = - numW nb b := by
        by_cases hb0 : b = []
        · subst hb0; cases nb <;> simp [numW]
        · have : 0 < b.length := List.length_pos_iff.2 hb0
          cases nb <;> simp [numW, this]
      omega
    rw [hnum] at hQ
    simp only [W] at hQ
    cases nb with
    | true =>
      simp at hQ
      simp (disch := omega) [hr]
      refine CallK.of (by simp) (add_call hn na false ia ib a b ha hb la lb (rightW_top hr.1).1 (rightW_top hr.2).1 fun i n' h1 h2 => ?_)
      simpa [h1] using hQ i n' h1 h2
    | false =>
      simp at hQ
      simp (disch := omega) [hr]
      refine CallK.of (by simp) (add_call hn na (decide (0 < b.length)) ia ib a b ha hb la lb (rightW_top hr.1).1 (rightW_top hr.2).1 fun i n' h1 h2 => ?_)
      simpa [h1] using hQ i n' h1 h2
  · rw [Bool.not_eq_true] at hr
    have h0 := h0 hr
    simp only [W] at h0
    rw [hr]
    simpa using h0
end Go.Proofs.Ytcdkgeeookcoeaa
