/- What the functions of layer 1 do, by value: the reference's sums and differences, part three, and the law's own helpers. -/
import Derived.Test.YtjnedccjfnappaaCtF
set_option linter.unusedVariables false
set_option linter.unusedSimpArgs false
namespace Go.Proofs.Ytjnedccjfnappaa
open Go.Proofs

theorem val_take_le {a b : List Nat} (la : Lim a) (h : val b ≤ val a) : val (b.take a.length) = val b := by
  have h1 := val_split b a.length
  have h2 := val_lt la
  generalize val (b.drop a.length) = d at h1
  cases d with
  | zero => omega
  | succ d => rw [Nat.mul_add] at h1; omega
theorem moreL_neg (a b : List Nat) : moreL a b < 0 ↔ val a < val b := by
  unfold moreL
  by_cases h : val a < val b
  · simp [h]
  · simp only [h, if_false]; split <;> simp
theorem numW_dig (z : Int) : numW (decide (z < 0)) (dig z.natAbs) = z := by
  unfold numW
  rw [val_dig]
  by_cases h : z < 0 <;> simp [h] <;> omega

theorem refAdd_call {n : Nat} (hn : 0 < n) (na nb : Bool) (ia ib : Sid) (a b : List Nat) (ha : a.length < 35184372088800) (hb : b.length < 35184372088800) (la : Lim a) (lb : Lim b) (z : Int) (hz : numW na a + numW nb b = z) {Q : PV → Nat → List Nat → Prop}
    (hQ : ∀ (i : Sid) (n' : Nat), n ≤ n' → newSid n n' i → Q (W (decide (z < 0)) i (dig z.natAbs)) n' []) : PCall Try.prog 20 [W na ia a, W nb ib b] n Q := by
  have fin : ∀ (i i' : Sid) (n' : Nat), n ≤ n' → n ≤ i.f → i.f < n' → i' = ⟨0, 0, 0⟩ ∨ i' = i → Q (W (decide (z < 0)) i' (dig z.natAbs)) n' [] := by
    intro i i' n' h1 h2 h3 h
    refine hQ i' n' h1 ?_
    rcases h with h | h
    · exact .inl h
    · subst h; exact .inr ⟨h2, h3⟩
  simp only [W] at fin
  refine of20 hn ?_
  by_cases hs : na = nb
  · subst hs
    simp (disch := omega) [c20]
    refine CallK.of (by simp) (plus_call hn ia ib a b ha hb la lb fun i l n' h1 h2 h3 h4 h5 h6 => ?_)
    simp (disch := omega) []
    refine CallK.of (by simp) (Made_call' (by omega) na i l (by omega) h4 z ?_ ?_ fun i' hi' => ?_)
    · rw [h5, ← hz]; unfold numW; split <;> omega
    · rw [h5, ← hz]; intro hv; unfold numW; cases na <;> simp <;> omega
    · simpa [h1] using fin i i' n' h1 h2 h3 hi'
  · have hs' : nb = !na := by cases na <;> cases nb <;> simp at hs ⊢
    have hx : (na == nb) = false := by simpa using hs
    simp (disch := omega) [c20, hx, hs]
    refine CallK.of (by simp) (More_call hn ia ib a b ha hb la lb ?_)
    have hsl := moreL_neg a b
    by_cases hc : val a < val b
    · have hc' := hsl.2 hc
      simp (disch := omega) [hc']
      refine CallK.of (by simp) (minus_call hn ib ia b a hb ha lb la fun i l n' h1 h2 h3 h4 h5 h6 => ?_)
      rw [val_take_le lb (by omega)] at h5
      have h5 := h5 (by omega)
      simp (disch := omega) []
      refine CallK.of (by simp) (Made_call' (by omega) nb i l (by omega) h4 z ?_ ?_ fun i' hi' => ?_)
      · rw [h5, ← hz, hs']; unfold numW; cases na <;> simp <;> omega
      · rw [h5, ← hz, hs']; intro hv; unfold numW; cases na <;> simp <;> omega
      · simpa [h1] using fin i i' n' h1 h2 h3 hi'
    · have hc' : ¬ moreL a b < 0 := fun e => hc (hsl.1 e)
      simp (disch := omega) [hc']
      refine CallK.of (by simp) (minus_call hn ia ib a b ha hb la lb fun i l n' h1 h2 h3 h4 h5 h6 => ?_)
      rw [val_take_le la (by omega)] at h5
      have h5 := h5 (by omega)
      simp (disch := omega) []
      refine CallK.of (by simp) (Made_call' (by omega) na i l (by omega) h4 z ?_ ?_ fun i' hi' => ?_)
      · rw [h5, ← hz, hs']; unfold numW; cases na <;> simp <;> omega
      · rw [h5, ← hz, hs']; intro hv; unfold numW; cases na <;> simp <;> omega
      · simpa [h1] using fin i i' n' h1 h2 h3 hi'

theorem Neg_call {n : Nat} (hn : 0 < n) (nb : Bool) (ib : Sid) (b : List Nat) (hb : b.length < 35184372088800) (lb : Lim b) (z : Int) (hz : z = - numW nb b) {Q : PV → Nat → List Nat → Prop}
    (hQ : ∀ i', i' = ⟨0, 0, 0⟩ ∨ i' = ib → Q (W (decide (z < 0)) i' (dig z.natAbs)) n []) : PCall Try.prog 41 [W nb ib b] n Q := by
  simp only [W] at hQ
  refine of41 hn ?_
  simp (disch := omega) [c41]
  refine CallK.of (by simp) (Made_call' hn (!nb) ib b (by omega) lb z ?_ ?_ fun i' hi' => ?_)
  · rw [hz]; unfold numW; cases nb <;> simp
  · rw [hz]; intro hv; unfold numW; cases nb <;> simp <;> omega
  · simpa using hQ i' hi'

theorem refSub_call {n : Nat} (hn : 0 < n) (na nb : Bool) (ia ib : Sid) (a b : List Nat) (ha : a.length < 35184372088800) (hb : b.length < 35184372088800) (la : Lim a) (lb : Lim b) (z : Int) (hz : numW na a - numW nb b = z) {Q : PV → Nat → List Nat → Prop}
    (hQ : ∀ (i : Sid) (n' : Nat), n ≤ n' → newSid n n' i → Q (W (decide (z < 0)) i (dig z.natAbs)) n' []) : PCall Try.prog 22 [W na ia a, W nb ib b] n Q := by
  simp only [W] at hQ
  refine of22 hn ?_
  simp (disch := omega) [c22]
  obtain ⟨y, hy⟩ : ∃ y, y = - numW nb b := ⟨_, rfl⟩
  refine CallK.of (by simp) (Neg_call hn nb ib b hb lb y hy fun i' hi' => ?_)
  simp (disch := omega) []
  have hl := length_dig lb
  have hab := numW_abs nb b
  refine CallK.of (by simp) (refAdd_call hn na (decide (y < 0)) ia i' a (dig y.natAbs) ha ?_ la (Lim.dig _) z ?_ fun i n' h1 h2 => ?_)
  · rw [show y.natAbs = val b by omega]; omega
  · rw [numW_dig]; omega
  · simpa [h1] using hQ i n' h1 h2

theorem copied_call {n : Nat} (hn : 0 < n) (neg : Bool) (i : Sid) (l : List Nat) (hl : l.length < 35184372088800) {Q : PV → Nat → List Nat → Prop}
    (hQ : ∀ (i : Sid) (n' : Nat), n ≤ n' → n ≤ i.f → i.f < n' → Q (W neg i l) n' []) : PCall Try.prog 14 [W neg i l] n Q := by
  simp only [W] at hQ
  refine of14 hn ?_
  simp (disch := omega) [c14]
  exact ⟨by omega, by omega, hQ _ _ (by omega) (by simp) (by simp; omega)⟩

theorem unPV_xor_ex (y : Int) : ∃ x : Nat, unPV .xor (.int .u32 y) = some (.int .u32 (x : Int)) :=
  ⟨_, by rw [unPV_xor, wrap_u32_nat _ (BitVec.isLt _)]⟩
/-- Before a round of spoil's loop. -/
def spoilI (n : Nat) (neg : Bool) (i : Sid) (l : List Nat) (k : Nat) (s : St) : Prop :=
  ∃ (j : Nat) (m : List Nat), j + k = l.length ∧ m.length = l.length ∧ s.nt = 20 ∧ s.boxes = [[.bool neg, .sl i 1 (u32s m)]] ∧ s.next = n ∧ s.n0 = n ∧ s.D = (if j = 0 then [] else [i.f]) ∧ s.slots 1 = .box 0 0 ∧ s.slots 2 = .int .i64 j
theorem spoil_call {n : Nat} (hn : 0 < n) (neg : Bool) (i : Sid) (hi : i.f < n ∧ i.f ≠ 0) (l : List Nat) (hl : l.length < 35184372088800) {Q : PV → Nat → List Nat → Prop}
    (h0 : l = [] → Q (.tup []) n []) (hQ : l ≠ [] → Q (.tup []) n [i.f]) : PCall Try.prog 18 [W neg i l] n Q := by
  refine of18 hn ?_
  simp (disch := omega) [c18]
  refine GO_loopN (spoilI n neg i l) l.length ⟨0, l, by omega, rfl, by simp, by simp, by simp, by simp, by simp, by simp, by simp⟩ ?_
  rintro k s ⟨j, m, hj, hm, e1, e2, e3, e4, e5, e6, e7⟩
  have hi1 := hi.1
  have hi2 := hi.2
  by_cases hk : j < m.length
  · obtain ⟨x, hx⟩ := unPV_xor_ex m[j]
    simp (disch := omega) [-unPV_xor, c18L0, e1, e2, e3, e4, e5, e6, e7, hk, hi1, hi2, hx]
    refine ⟨k - 1, by omega, j + 1, m.set j x, by omega, by simp [hm], ?_, ?_, ?_, ?_, ?_, ?_, ?_⟩ <;> simp [e1, e2, e3, e4, e5, e6, e7, hi1, hi2]
    by_cases hj0 : j = 0 <;> simp [hj0]
  · have hkl : ¬ j < l.length := by omega
    have hjl : j = l.length := by omega
    by_cases hl0 : l = []
    · subst hl0
      have := h0 rfl
      simp at hjl
      have hmn : m = [] := List.length_eq_zero_iff.1 (by simpa using hm)
      subst hmn
      simpa (disch := omega) [c18L0, e1, e2, e3, e4, e5, e6, e7, hk, hjl, resV] using this
    · have := hQ hl0
      have hjn : ¬ j = 0 := by have := List.length_pos_iff.2 hl0; omega
      simpa (disch := omega) [c18L0, e1, e2, e3, e4, e5, e6, e7, hk, hjn, resV] using this

/-- Is an answer the document's? -/
def toldB (na : Bool) (a : List Nat) (e : Int) (nw : Bool) (w : List Nat) (f : Int) : Bool :=
  if f = 0 ∧ ¬ 512 < w.length then decide (e = 0) && (na == nw && decide (a = w))
  else decide (e = (if f = 0 then 2 else f)) && (!na && decide (a = []))
theorem told_call {n : Nat} (hn : 0 < n) (na nw : Bool) (ia iw : Sid) (a w : List Nat) (ha : a.length < 35184372088800) (hw : w.length < 35184372088800) (e f : Int) {Q : PV → Nat → List Nat → Prop}
    (hQ : Q (.bool (toldB na a e nw w f)) n []) : PCall Try.prog 19 [W na ia a, .int .i64 e, W nw iw w, .int .i64 f] n Q := by
  unfold toldB at hQ
  refine of19 hn ?_
  by_cases hf : f = 0
  · subst hf
    by_cases hl : 512 < w.length
    · simp [hl] at hQ
      by_cases he : e = 2
      · subst he
        simp at hQ
        simp (disch := omega) [c19, hl]
        refine CallK.of (by simp) (Same_call hn na false ia ⟨0, 0, 0⟩ a [] (by omega) ?_)
        simpa using hQ
      · simp [he] at hQ
        have he' : (e == 2) = false := by simpa using he
        simpa (disch := omega) [c19, hl, he'] using hQ
    · simp [hl] at hQ
      by_cases he : e = 0
      · subst he
        simp at hQ
        simp (disch := omega) [c19, hl]
        refine CallK.of (by simp) (Same_call hn na nw ia iw a w (by omega) ?_)
        simpa using hQ
      · simp [he] at hQ
        have he' : (e == 0) = false := by simpa using he
        simpa (disch := omega) [c19, hl, he'] using hQ
  · simp [hf] at hQ
    have hf' : (f == 0) = false := by simpa using hf
    have hf'' : (f != 0) = true := by simpa using hf
    by_cases he : e = f
    · subst he
      simp at hQ
      simp (disch := omega) [c19, hf', hf'']
      refine CallK.of (by simp) (Same_call hn na false ia ⟨0, 0, 0⟩ a [] (by omega) ?_)
      simpa using hQ
    · simp [he] at hQ
      have he' : (e == f) = false := by simpa using he
      simpa (disch := omega) [c19, hf', hf'', he'] using hQ

theorem form_call {n : Nat} (hn : 0 < n) (na nb : Bool) (ia ib : Sid) (a b : List Nat) (ha : a.length < 35184372088800) (hb : b.length < 35184372088800) {Q : PV → Nat → List Nat → Prop}
    (hQ : Q (.int .i64 (if rightW na a && rightW nb b then 0 else 1)) n []) : PCall Try.prog 21 [W na ia a, W nb ib b] n Q := by
  refine of21 hn ?_
  simp (disch := omega) [c21]
  refine CallK.of (by simp) (Right_call hn na ia a (by omega) ?_)
  by_cases h1 : rightW na a = true
  · simp [h1] at hQ ⊢
    refine CallK.of (by simp) (Right_call hn nb ib b (by omega) ?_)
    by_cases h2 : rightW nb b = true
    · simpa [h2] using hQ
    · simpa [h2] using hQ
  · simpa [h1] using hQ

theorem Of_call {n : Nat} (hn : 0 < n) (m : Int) (hm : -9223372036854775808 ≤ m) (hm' : m < 9223372036854775808) {Q : PV → Nat → List Nat → Prop}
    (hQ : ∀ (i : Sid) (n' : Nat), n ≤ n' → newSid n n' i → Q (W (decide (m < 0)) i (dig m.natAbs)) n' []) : PCall Try.prog 26 [.int .i64 m] n Q := by
  simp only [W] at hQ
  refine of26 hn ?_
  obtain ⟨lo, hlo0⟩ : ∃ lo, lo = m.natAbs % 4294967296 := ⟨_, rfl⟩
  obtain ⟨hi, hhi0⟩ : ∃ hi, hi = m.natAbs / 4294967296 := ⟨_, rfl⟩
  obtain ⟨v, hv0⟩ : ∃ v, v = m.natAbs := ⟨_, rfl⟩
  have hlim : Lim [lo, hi] := by intro x hx; simp at hx; omega
  have hval : val [lo, hi] = m.natAbs := by simp; omega
  have hbig : big m = false := by
    have := length_dig hlim
    rw [hval] at this
    simp [big]; simp at this; omega
  have hlo : IntKind.u32.wrap (v : Int) = (lo : Int) := by rw [wrap_u32_eq]; omega
  have hhi : IntKind.u32.wrap ((v : Int) / 4294967296) = (hi : Int) := by rw [wrap_u32_eq]; omega
  have hof : ∀ s : Sid, s.f = n → ∀ i', i' = ⟨0, 0, 0⟩ ∨ i' = s → Q (W (ansN m) i' (ansL m)) (n + 1) [] := by
    intro s hs i' hi'
    simp only [ansN, ansL, hbig, W]
    refine hQ i' (n + 1) (by omega) ?_
    rcases hi' with h | h
    · exact .inl h
    · subst h; exact .inr ⟨by omega, by omega⟩
  simp only [W] at hof
  by_cases hs : m < 0
  · have hv : IntKind.u64.wrap (0 - IntKind.u64.wrap m) = (v : Int) := by rw [wrap_u64_eq, wrap_u64_eq]; omega
    simp (disch := omega) [-wrap_u64_at, -wrap_u32_at, -Int.zero_sub, c26, hs, hv, hlo, hhi]
    refine CallK.of (by simp) (of_call' (by omega) true ⟨n, n, 0⟩ [lo, hi] (by simp) hlim m (by omega) (by simp [hs]) fun i' hi' => ?_)
    simpa [ansE, hbig] using hof ⟨n, n, 0⟩ rfl i' hi'
  · have hv : IntKind.u64.wrap m = (v : Int) := by rw [wrap_u64_eq]; omega
    simp (disch := omega) [-wrap_u64_at, -wrap_u32_at, c26, hs, hv, hlo, hhi]
    refine CallK.of (by simp) (of_call' (by omega) false ⟨n, n, 0⟩ [lo, hi] (by simp) hlim m (by omega) (by simp [hs]) fun i' hi' => ?_)
    simpa [ansE, hbig] using hof ⟨n, n, 0⟩ rfl i' hi'

theorem dig_one {v : Nat} (h : v ≠ 0) (h2 : v < 4294967296) : dig v = [v] := by
  rw [dig_pos h, Nat.mod_eq_of_lt h2, Nat.div_eq_of_lt h2, dig_zero]
theorem awake_call {n : Nat} (hn : 0 < n) {Q : PV → Nat → List Nat → Prop} (hQ : ∀ n', n ≤ n' → Q (.bool true) n' []) : PCall Try.prog 13 [] n Q := by
  refine of13 hn ?_
  simp [c13]
  refine CallK.of (by simp) (Of_call hn 4294967295 (by omega) (by omega) fun i n1 h1 hi => ?_)
  rw [show (4294967295 : Int).natAbs = 4294967295 from rfl, dig_one (by omega) (by omega)]
  simp (disch := omega) [h1]
  refine CallK.of (by simp) (Of_call (by omega) 1 (by omega) (by omega) fun j n2 h2 hj => ?_)
  rw [show (1 : Int).natAbs = 1 from rfl, dig_one (by omega) (by omega)]
  simp (disch := omega) [h1, h2]
  refine CallK.of (by simp) (Add_call (by omega) false false i j [4294967295] [1] (by simp) (by simp) (.one (by omega)) (.one (by omega)) (fun h => ?_) fun h k n3 h3 hk => ?_)
  · simp [rightW, topOk] at h
  · have hz : numW false [4294967295] + numW false [1] = 4294967296 := by simp [numW]
    have hd : dig (4294967296 : Int).natAbs = [0, 1] := by
      rw [show (4294967296 : Int).natAbs = 4294967296 from rfl, dig_pos (by omega), dig_one (by omega) (by omega)]
    rw [hz]
    simp only [ansN, ansL, ansE, big, hd]
    simp (disch := omega) []
    refine CallK.of (by simp) (Same_call (by omega) false false k ⟨n3, n3, 0⟩ [0, 1] [0, 1] (by simp) ?_)
    have := hQ (n3 + 1) (by omega)
    simpa using ⟨by omega, this⟩
end Go.Proofs.Ytjnedccjfnappaa
