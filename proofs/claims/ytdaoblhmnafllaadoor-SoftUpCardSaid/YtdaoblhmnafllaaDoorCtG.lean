/- What the functions of layer 1 do, by value: the reference's sums and differences, part three, and the law's own helpers. -/
import Derived.Test.YtdaoblhmnafllaaDoorCtF
set_option linter.unusedVariables false
set_option linter.unusedSimpArgs false
namespace Go.Proofs.YtdaoblhmnafllaaDoor
open Go.Proofs

theorem val_take_le {a b : List Nat} (la : Lim a) (h : val b ≤ val a) : val (b.take a.length) = val b := by
  have h1 := val_split b a.length
  have h2 := val_lt la
  generalize val (b.drop a.length) = d at h1
  cases d with
  | zero => omega
  | succ d => rw [Nat.mul_add] at h1; omega
theorem moreL_neg (a b : List Nat) : moreL a b < 0 ↔ val a < val b := by
  unfold moreL
  by_cases h : val a < val b
  · simp [h]
  · simp only [h, if_false]; split <;> simp
theorem numW_dig (z : Int) : numW (decide (z < 0)) (dig z.natAbs) = z := by
  unfold numW
  rw [val_dig]
  by_cases h : z < 0 <;> simp [h] <;> omega

theorem refAdd_call {n : Nat} (hn : 0 < n) (na nb : Bool) (ia ib : Sid) (a b : List Nat) (ha : a.length < 35184372088800) (hb : b.length < 35184372088800) (la : Lim a) (lb : Lim b) (z : Int) (hz : numW na a + numW nb b = z) {Q : PV → Nat → List Nat → Prop}
    (hQ : ∀ (i : Sid) (n' : Nat), n ≤ n' → newSid n n' i → Q (W (decide (z < 0)) i (dig z.natAbs)) n' []) : PCall Tryd.prog 79 [W na ia a, W nb ib b] n Q := by
  have fin : ∀ (i i' : Sid) (n' : Nat), n ≤ n' → n ≤ i.f → i.f < n' → i' = ⟨0, 0, 0⟩ ∨ i' = i → Q (W (decide (z < 0)) i' (dig z.natAbs)) n' [] := by
    intro i i' n' h1 h2 h3 h
    refine hQ i' n' h1 ?_
    rcases h with h | h
    · exact .inl h
    · subst h; exact .inr ⟨h2, h3⟩
  simp only [W] at fin
  refine of79 hn ?_
  by_cases hs : na = nb
  · subst hs
    simp (disch := omega) [c79]
    refine CallK.of (by simp) (plus_call hn ia ib a b ha hb la lb fun i l n' h1 h2 h3 h4 h5 h6 => ?_)
    simp (disch := omega) []
    refine CallK.of (by simp) (Made_call' (by omega) na i l (by omega) h4 z ?_ ?_ fun i' hi' => ?_)
    · rw [h5, ← hz]; unfold numW; split <;> omega
    · rw [h5, ← hz]; intro hv; unfold numW; cases na <;> simp <;> omega
    · simpa [h1] using fin i i' n' h1 h2 h3 hi'
  · have hs' : nb = !na := by cases na <;> cases nb <;> simp at hs ⊢
    have hx : (na == nb) = false := by simpa using hs
    simp (disch := omega) [c79, hx, hs]
    refine CallK.of (by simp) (More_call hn ia ib a b ha hb la lb ?_)
    have hsl := moreL_neg a b
    by_cases hc : val a < val b
    · have hc' := hsl.2 hc
      simp (disch := omega) [hc']
      refine CallK.of (by simp) (minus_call hn ib ia b a hb ha lb la fun i l n' h1 h2 h3 h4 h5 h6 => ?_)
      rw [val_take_le lb (by omega)] at h5
      have h5 := h5 (by omega)
      simp (disch := omega) []
      refine CallK.of (by simp) (Made_call' (by omega) nb i l (by omega) h4 z ?_ ?_ fun i' hi' => ?_)
      · rw [h5, ← hz, hs']; unfold numW; cases na <;> simp <;> omega
      · rw [h5, ← hz, hs']; intro hv; unfold numW; cases na <;> simp <;> omega
      · simpa [h1] using fin i i' n' h1 h2 h3 hi'
    · have hc' : ¬ moreL a b < 0 := fun e => hc (hsl.1 e)
      simp (disch := omega) [hc']
      refine CallK.of (by simp) (minus_call hn ia ib a b ha hb la lb fun i l n' h1 h2 h3 h4 h5 h6 => ?_)
      rw [val_take_le la (by omega)] at h5
      have h5 := h5 (by omega)
      simp (disch := omega) []
      refine CallK.of (by simp) (Made_call' (by omega) na i l (by omega) h4 z ?_ ?_ fun i' hi' => ?_)
      · rw [h5, ← hz, hs']; unfold numW; cases na <;> simp <;> omega
      · rw [h5, ← hz, hs']; intro hv; unfold numW; cases na <;> simp <;> omega
      · simpa [h1] using fin i i' n' h1 h2 h3 hi'

theorem Neg_call {n : Nat} (hn : 0 < n) (nb : Bool) (ib : Sid) (b : List Nat) (hb : b.length < 35184372088800) (lb : Lim b) (z : Int) (hz : z = - numW nb b) {Q : PV → Nat → List Nat → Prop}
    (hQ : ∀ i', i' = ⟨0, 0, 0⟩ ∨ i' = ib → Q (W (decide (z < 0)) i' (dig z.natAbs)) n []) : PCall Tryd.prog 41 [W nb ib b] n Q := by
  simp only [W] at hQ
  refine of41 hn ?_
  simp (disch := omega) [c41]
  refine CallK.of (by simp) (Made_call' hn (!nb) ib b (by omega) lb z ?_ ?_ fun i' hi' => ?_)
  · rw [hz]; unfold numW; cases nb <;> simp
  · rw [hz]; intro hv; unfold numW; cases nb <;> simp <;> omega
  · simpa using hQ i' hi'

theorem unPV_xor_ex (y : Int) : ∃ x : Nat, unPV .xor (.int .u32 y) = some (.int .u32 (x : Int)) :=
  ⟨_, by rw [unPV_xor, wrap_u32_nat _ (BitVec.isLt _)]⟩
/-- Before a round of spoil's loop. -/
def spoilI (n : Nat) (neg : Bool) (i : Sid) (l : List Nat) (k : Nat) (s : St) : Prop :=
  ∃ (j : Nat) (m : List Nat), j + k = l.length ∧ m.length = l.length ∧ s.nt = 20 ∧ s.boxes = [[.bool neg, .sl i 1 (u32s m)]] ∧ s.next = n ∧ s.n0 = n ∧ s.D = (if j = 0 then [] else [i.f]) ∧ s.slots 1 = .box 0 0 ∧ s.slots 2 = .int .i64 j
/-- Is an answer the document's? -/
def toldB (na : Bool) (a : List Nat) (e : Int) (nw : Bool) (w : List Nat) (f : Int) : Bool :=
  if f = 0 ∧ ¬ 512 < w.length then decide (e = 0) && (na == nw && decide (a = w))
  else decide (e = (if f = 0 then 2 else f)) && (!na && decide (a = []))
theorem Of_call {n : Nat} (hn : 0 < n) (m : Int) (hm : -9223372036854775808 ≤ m) (hm' : m < 9223372036854775808) {Q : PV → Nat → List Nat → Prop}
    (hQ : ∀ (i : Sid) (n' : Nat), n ≤ n' → newSid n n' i → Q (W (decide (m < 0)) i (dig m.natAbs)) n' []) : PCall Tryd.prog 37 [.int .i64 m] n Q := by
  simp only [W] at hQ
  refine of37 hn ?_
  obtain ⟨lo, hlo0⟩ : ∃ lo, lo = m.natAbs % 4294967296 := ⟨_, rfl⟩
  obtain ⟨hi, hhi0⟩ : ∃ hi, hi = m.natAbs / 4294967296 := ⟨_, rfl⟩
  obtain ⟨v, hv0⟩ : ∃ v, v = m.natAbs := ⟨_, rfl⟩
  have hlim : Lim [lo, hi] := by intro x hx; simp at hx; omega
  have hval : val [lo, hi] = m.natAbs := by simp; omega
  have hbig : big m = false := by
    have := length_dig hlim
    rw [hval] at this
    simp [big]; simp at this; omega
  have hlo : IntKind.u32.wrap (v : Int) = (lo : Int) := by rw [wrap_u32_eq]; omega
  have hhi : IntKind.u32.wrap ((v : Int) / 4294967296) = (hi : Int) := by rw [wrap_u32_eq]; omega
  have hof : ∀ s : Sid, s.f = n → ∀ i', i' = ⟨0, 0, 0⟩ ∨ i' = s → Q (W (ansN m) i' (ansL m)) (n + 1) [] := by
    intro s hs i' hi'
    simp only [ansN, ansL, hbig, W]
    refine hQ i' (n + 1) (by omega) ?_
    rcases hi' with h | h
    · exact .inl h
    · subst h; exact .inr ⟨by omega, by omega⟩
  simp only [W] at hof
  by_cases hs : m < 0
  · have hv : IntKind.u64.wrap (0 - IntKind.u64.wrap m) = (v : Int) := by rw [wrap_u64_eq, wrap_u64_eq]; omega
    simp (disch := omega) [-wrap_u64_at, -wrap_u32_at, -Int.zero_sub, c37, hs, hv, hlo, hhi]
    refine CallK.of (by simp) (of_call' (by omega) true ⟨n, n, 0⟩ [lo, hi] (by simp) hlim m (by omega) (by simp [hs]) fun i' hi' => ?_)
    simpa [ansE, hbig] using hof ⟨n, n, 0⟩ rfl i' hi'
  · have hv : IntKind.u64.wrap m = (v : Int) := by rw [wrap_u64_eq]; omega
    simp (disch := omega) [-wrap_u64_at, -wrap_u32_at, c37, hs, hv, hlo, hhi]
    refine CallK.of (by simp) (of_call' (by omega) false ⟨n, n, 0⟩ [lo, hi] (by simp) hlim m (by omega) (by simp [hs]) fun i' hi' => ?_)
    simpa [ansE, hbig] using hof ⟨n, n, 0⟩ rfl i' hi'

theorem dig_one {v : Nat} (h : v ≠ 0) (h2 : v < 4294967296) : dig v = [v] := by
  rw [dig_pos h, Nat.mod_eq_of_lt h2, Nat.div_eq_of_lt h2, dig_zero]
end Go.Proofs.YtdaoblhmnafllaaDoor
