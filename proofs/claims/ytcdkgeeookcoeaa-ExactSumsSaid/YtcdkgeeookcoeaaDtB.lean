/- Ranks by elimination, in plain Lean: rows that are taken off others crosswise leave the rank; stairs show it. Sets of places by bits. -/
import Derived.Test.YtcdkgeeookcoeaaDtA
set_option linter.unusedVariables false
set_option linter.unusedSimpArgs false
namespace Go.Proofs.Ytcdkgeeookcoeaa

abbrev rowsOf (n : Nat) (A : Nat → Nat → Int) : List (Nat → Int) := (List.range n).map fun i => A i
theorem mem_rowsOf {n : Nat} {A : Nat → Nat → Int} {r : Nat → Int} : r ∈ rowsOf n A ↔ ∃ i, i < n ∧ A i = r := by simp [rowsOf]

def swapF (A : Nat → Nat → Int) (d p : Nat) : Nat → Nat → Int := fun i => if i = d then A p else if i = p then A d else A i
def elimF (A : Nat → Nat → Int) (d c : Nat) : Nat → Nat → Int := fun i => if d < i ∧ A i c ≠ 0 then fun k => A i k * A d c - A d k * A i c else A i

theorem one_span {A : List (Nat → Int)} {r : Nat → Int} (h : r ∈ A) : ∃ p : Int, p ≠ 0 ∧ Span A (fun c => p * r c) := ⟨1, by omega, by simpa using Span.mem h⟩

theorem rank_swap {A : Nat → Nat → Int} {n d p r : Nat} (hd : d < n) (hp : p < n) (h : IsRank (rowsOf n (swapF A d p)) r) : IsRank (rowsOf n A) r := by
  refine h.made (fun q hq => ?_) (fun q hq => ?_)
  · obtain ⟨i, hi, rfl⟩ := mem_rowsOf.1 hq
    refine one_span (mem_rowsOf.2 ?_)
    by_cases e : i = d
    · by_cases e2 : p = d
      · exact ⟨d, hd, by simp [swapF, e, e2]⟩
      · exact ⟨p, hp, by simp [swapF, e, e2]⟩
    · by_cases e2 : i = p
      · exact ⟨d, hd, by simp [swapF, e2]⟩
      · exact ⟨i, hi, by simp [swapF, e, e2]⟩
  · obtain ⟨i, hi, rfl⟩ := mem_rowsOf.1 hq
    refine one_span (mem_rowsOf.2 ?_)
    simp only [swapF]
    split
    · exact ⟨p, hp, rfl⟩
    · split
      · exact ⟨d, hd, rfl⟩
      · exact ⟨i, hi, rfl⟩
theorem rank_elim {A : Nat → Nat → Int} {n d c r : Nat} (hd : d < n) (hA : A d c ≠ 0) (h : IsRank (rowsOf n (elimF A d c)) r) : IsRank (rowsOf n A) r := by
  have hdd : elimF A d c d = A d := by simp [elimF]
  refine h.made (fun q hq => ?_) (fun q hq => ?_)
  · obtain ⟨i, hi, rfl⟩ := mem_rowsOf.1 hq
    by_cases e : d < i ∧ A i c ≠ 0
    · refine ⟨A d c, hA, ?_⟩
      have h1 : Span (rowsOf n (elimF A d c)) (elimF A d c i) := Span.mem (mem_rowsOf.2 ⟨i, hi, rfl⟩)
      have h2 : Span (rowsOf n (elimF A d c)) (elimF A d c d) := Span.mem (mem_rowsOf.2 ⟨d, hd, rfl⟩)
      have h3 := h1.add (h2.mul (A i c))
      rw [hdd] at h3
      have e2 : elimF A d c i = fun k => A i k * A d c - A d k * A i c := by simp [elimF, e]
      rw [e2] at h3
      have e3 : (fun k => A i k * A d c - A d k * A i c + A i c * A d k) = fun k => A d c * A i k := funext fun k => by
        rw [Int.mul_comm (A i c), Int.mul_comm (A d c)]; omega
      rwa [e3] at h3
    · have e2 : elimF A d c i = A i := by simp only [elimF]; rw [if_neg e]
      exact one_span (mem_rowsOf.2 ⟨i, hi, e2⟩)
  · obtain ⟨i, hi, rfl⟩ := mem_rowsOf.1 hq
    by_cases e : d < i ∧ A i c ≠ 0
    · have e2 : elimF A d c i = fun k => A i k * A d c - A d k * A i c := by simp [elimF, e]
      rw [e2]
      have h1 : Span (rowsOf n A) (A i) := Span.mem (mem_rowsOf.2 ⟨i, hi, rfl⟩)
      have h2 : Span (rowsOf n A) (A d) := Span.mem (mem_rowsOf.2 ⟨d, hd, rfl⟩)
      have h3 := (h1.mul (A d c)).add (h2.mul (-(A i c)))
      refine ⟨1, by omega, ?_⟩
      have e3 : (fun k => A d c * A i k + -(A i c) * A d k) = fun k => 1 * (A i k * A d c - A d k * A i c) := funext fun k => by
        rw [Int.mul_comm (A i k), Int.mul_comm (A d k), Int.neg_mul]; omega
      rwa [e3] at h3
    · have e2 : elimF A d c i = A i := by simp only [elimF]; rw [if_neg e]
      rw [e2]
      exact one_span (mem_rowsOf.2 ⟨i, hi, rfl⟩)

/-- A stair of pivots. -/
theorem Dt_tri : ∀ (rs : List (Nat → Int)) (cs : List Nat), rs.length = cs.length → (∀ (j : Nat) (r : Nat → Int) (c : Nat), rs[j]? = some r → cs[j]? = some c → r c ≠ 0) → (∀ (i j : Nat) (r : Nat → Int) (c : Nat), j < i → rs[i]? = some r → cs[j]? = some c → r c = 0) → Dt rs cs ≠ 0
  | [], cs, h, _, _ => by rw [Dt_nil]; omega
  | r :: rs, [], h, _, _ => by simp at h
  | r :: rs, c :: cs, h, h1, h2 => by
    have hl : rs.length = cs.length := by simpa using h
    have hz : Sg (fun c' rest => r c' * Dt rs (c :: rest)) cs = 0 := by
      rw [← Sg_zero cs]
      refine Sg_congr _ fun c' rest hm hp => ?_
      rw [Dt_zeroCol c rs (c :: rest) (by have := hp.length_eq; simp at this ⊢; omega) (by simp) fun q hq => by
        obtain ⟨i, hi⟩ := List.mem_iff_getElem?.1 hq
        exact h2 (i + 1) 0 q c (by omega) (by simpa using hi) (by simp), Int.mul_zero]
    rw [Dt_cons]
    simp only [Sg]
    rw [hz, Int.sub_zero]
    exact Int.mul_ne_zero (h1 0 r c (by simp) (by simp)) (Dt_tri rs cs hl (fun j r c a b => h1 (j + 1) r c (by simpa using a) (by simpa using b)) (fun i j r c hji a b => h2 (i + 1) (j + 1) r c (by omega) (by simpa using a) (by simpa using b)))

/-- Stairs: `d` pivots in the columns below c. -/
structure Stairs (A : Nat → Nat → Int) (n d c : Nat) : Prop where
  dn : d ≤ n
  piv : ∃ pc : Nat → Nat, ∀ j, j < d → pc j < c ∧ A j (pc j) ≠ 0 ∧ ∀ i, j < i → i < n → A i (pc j) = 0
  low : ∀ i, d ≤ i → i < n → ∀ k, k < c → A i k = 0
theorem Stairs.zero (A : Nat → Nat → Int) (n : Nat) : Stairs A n 0 0 := ⟨Nat.zero_le _, ⟨fun _ => 0, fun j h => by omega⟩, fun i _ _ k h => by omega⟩
theorem Stairs.skip {A : Nat → Nat → Int} {n d c : Nat} (h : Stairs A n d c) (hc : ∀ i, d ≤ i → i < n → A i c = 0) : Stairs A n d (c + 1) := by
  obtain ⟨h1, ⟨pc, h2⟩, h3⟩ := h
  refine ⟨h1, ⟨pc, fun j hj => ⟨Nat.lt_succ_of_lt (h2 j hj).1, (h2 j hj).2⟩⟩, fun i hi hn k hk => ?_⟩
  by_cases e : k = c
  · rw [e]; exact hc i hi hn
  · exact h3 i hi hn k (by omega)
theorem Stairs.step {A : Nat → Nat → Int} {n d c p : Nat} (h : Stairs A n d c) (hp : d ≤ p ∧ p < n) (hA : A p c ≠ 0) : Stairs (elimF (swapF A d p) d c) n (d + 1) (c + 1) := by
  obtain ⟨h1, ⟨pc, h2⟩, h3⟩ := h
  obtain ⟨p1, p2⟩ := hp
  have sd : swapF A d p d = A p := by simp [swapF]
  -- the swapped rows keep the stairs
  have s2 : ∀ j, j < d → swapF A d p j = A j := fun j hj => by simp only [swapF]; rw [if_neg (by omega), if_neg (by omega)]
  have s3 : ∀ i, d ≤ i → i < n → ∃ i', d ≤ i' ∧ i' < n ∧ swapF A d p i = A i' := fun i hi hn => by
    simp only [swapF]
    split
    · exact ⟨p, p1, p2, rfl⟩
    · split
      · exact ⟨d, Nat.le_refl _, by omega, rfl⟩
      · exact ⟨i, hi, hn, rfl⟩
  generalize swapF A d p = B at sd s2 s3
  have b1 : ∀ i, d ≤ i → i < n → ∀ k, k < c → B i k = 0 := fun i hi hn k hk => by
    obtain ⟨i', a, b, e⟩ := s3 i hi hn; rw [e]; exact h3 i' a b k hk
  have b2 : ∀ j i, j < d → j < i → i < n → B i (pc j) = 0 := fun j i hj hji hn => by
    by_cases e : i < d
    · rw [s2 i e]; exact (h2 j hj).2.2 i hji hn
    · obtain ⟨i', a, b, e⟩ := s3 i (by omega) hn; rw [e]; exact (h2 j hj).2.2 i' (by omega) b
  have hBd : B d c ≠ 0 := by rw [sd]; exact hA
  have ed : ∀ i, ¬ d < i → elimF B d c i = B i := fun i hi => by simp only [elimF]; rw [if_neg (fun e => hi e.1)]
  refine ⟨by omega, ⟨fun j => if j < d then pc j else c, fun j hj => ?_⟩, fun i hi hn k hk => ?_⟩
  · by_cases e : j < d
    · simp only [e, if_true]
      refine ⟨Nat.lt_succ_of_lt (h2 j e).1, ?_, fun i hji hn => ?_⟩
      · rw [ed j (by omega), s2 j e]; exact (h2 j e).2.1
      · simp only [elimF]
        split
        · show B i (pc j) * B d c - B d (pc j) * B i c = 0
          rw [b2 j i e hji hn, b2 j d e e (by omega)]; simp
        · exact b2 j i e hji hn
    · have : j = d := by omega
      subst this
      simp only [Nat.lt_irrefl, if_false]
      refine ⟨Nat.lt_succ_self _, by rw [ed j (by omega)]; exact hBd, fun i hji hn => ?_⟩
      simp only [elimF]
      split
      · show B i c * B j c - B j c * B i c = 0
        rw [Int.mul_comm]; omega
      · rename_i e2
        exact Classical.byContradiction fun e3 => e2 ⟨hji, e3⟩
  · by_cases e : k = c
    · subst e
      simp only [elimF]
      split
      · show B i k * B d k - B d k * B i k = 0
        rw [Int.mul_comm]; omega
      · rename_i e2
        exact Classical.byContradiction fun e3 => e2 ⟨by omega, e3⟩
    · simp only [elimF]
      split
      · show B i k * B d c - B d k * B i c = 0
        rw [b1 i (by omega) hn k (by omega), b1 d (Nat.le_refl _) (by omega) k (by omega)]; simp
      · exact b1 i (by omega) hn k (by omega)
theorem idx_of {n : Nat} {A : Nat → Nat → Int} : ∀ {rs : List (Nat → Int)}, (∀ r, r ∈ rs → r ∈ rowsOf n A) → ∃ idx : List Nat, rs = idx.map (fun i => A i) ∧ ∀ i, i ∈ idx → i < n
  | [], _ => ⟨[], rfl, by simp⟩
  | r :: rs, h2 => by
    obtain ⟨idx, e, hi⟩ := idx_of (rs := rs) fun r hr => h2 r (by simp [hr])
    obtain ⟨i, hin, rfl⟩ := mem_rowsOf.1 (h2 r (by simp))
    exact ⟨i :: idx, by simp [e], fun j hj => by rcases List.mem_cons.1 hj with e | e; exact e ▸ hin; exact hi j e⟩
theorem nodup_lt {l : List Nat} {n : Nat} (h : l.Nodup) (hl : ∀ i, i ∈ l → i < n) : l.length ≤ n := by
  have := (List.nodup_range (n := n))
  have hs : l ⊆ List.range n := fun i hi => List.mem_range.2 (hl i hi)
  have := h.length_le_of_subset hs
  simpa using this
theorem Stairs.rank {A : Nat → Nat → Int} {n d w : Nat} (h : Stairs A n d w) (hw : ∀ i c, w ≤ c → A i c = 0) : IsRank (rowsOf n A) d := by
  obtain ⟨h1, ⟨pc, h2⟩, h3⟩ := h
  constructor
  · intro hv
    refine Dt_tri ((List.range d).map fun i => A i) ((List.range d).map pc) (by simp) ?_ ?_ (hv _ _ (by simp) (fun r hr => ?_) (by simp))
    · intro j r c hr hc
      simp only [List.getElem?_map, Option.map_eq_some_iff] at hr hc
      obtain ⟨i, hi, rfl⟩ := hr
      obtain ⟨i', hi', rfl⟩ := hc
      have e1 := List.getElem?_range (n := d) (i := j)
      rw [hi] at hi'; cases hi'
      have hlt := (List.getElem?_eq_some_iff.1 hi)
      obtain ⟨k1, k2⟩ := hlt
      simp at k1 k2
      subst k2
      exact (h2 j k1).2.1
    · intro i j r c hji hr hc
      simp only [List.getElem?_map, Option.map_eq_some_iff] at hr hc
      obtain ⟨i', hi, rfl⟩ := hr
      obtain ⟨j', hj, rfl⟩ := hc
      obtain ⟨k1, k2⟩ := List.getElem?_eq_some_iff.1 hi
      obtain ⟨k3, k4⟩ := List.getElem?_eq_some_iff.1 hj
      simp at k1 k2 k3 k4
      subst k2 k4
      exact (h2 j k3).2.2 i hji (by omega)
    · simp only [List.mem_map, List.mem_range] at hr
      obtain ⟨i, hi, rfl⟩ := hr
      exact mem_rowsOf.2 ⟨i, by omega, rfl⟩
  · intro rs cols h4 h5 h6
    obtain ⟨idx, rfl, hi⟩ := idx_of h5
    by_cases hz : ∃ i, i ∈ idx ∧ d ≤ i
    · obtain ⟨i, hm, hdi⟩ := hz
      have e : A i = fun _ => 0 := funext fun c => by
        by_cases hc : c < w
        · exact h3 i hdi (hi i hm) c hc
        · exact hw i c (by omega)
      obtain ⟨s, t, rfl⟩ := List.append_of_mem hm
      simp only [List.map_append, List.map_cons, e]
      exact Dt_zeroRow _ _ _
    · refine Dt_dup (fun hn => ?_) A cols
      have := nodup_lt hn (n := d) (fun i hm => Nat.lt_of_not_le fun e => hz ⟨i, hm, e⟩)
      simp at h4
      omega

/-! ### sets of places, by bits -/
def bl (n m : Nat) : List Nat := (List.range n).filter fun i => m.testBit i
theorem bl_succ (n m : Nat) : bl (n + 1) m = bl n m ++ (if m.testBit n then [n] else []) := by
  unfold bl
  rw [List.range_succ, List.filter_append]
  congr 1
  by_cases h : m.testBit n = true <;> simp [h]
theorem bl_lt {n m i : Nat} (h : i ∈ bl n m) : i < n ∧ m.testBit i = true := by simpa [bl] using h
theorem bl_rise (n m : Nat) : rise (bl n m) := List.Pairwise.filter _ (List.pairwise_lt_range)
theorem bl_congr {n m m' : Nat} (h : ∀ i, i < n → m.testBit i = m'.testBit i) : bl n m = bl n m' := by
  unfold bl
  refine List.filter_congr fun i hi => ?_
  rw [h i (by simpa using hi)]
theorem rise_bl : ∀ (n : Nat) (l : List Nat), rise l → (∀ i, i ∈ l → i < n) → ∃ m, m < 2 ^ n ∧ bl n m = l
  | 0, l, _, h => by
    have : l = [] := by cases l with | nil => rfl | cons a l => exact absurd (h a (by simp)) (by omega)
    exact ⟨0, by simp, by simp [bl, this]⟩
  | n + 1, l, hr, h => by
    by_cases hn : n ∈ l
    · have hne : l ≠ [] := fun e => by rw [e] at hn; simp at hn
      obtain ⟨l', x, rfl⟩ : ∃ p v, l = p ++ [v] := ⟨l.dropLast, l.getLast hne, (List.dropLast_concat_getLast hne).symm⟩
      have hp := List.pairwise_append.1 hr
      have hx : x = n := by
        rcases List.mem_append.1 hn with e | e
        · have := hp.2.2 n e x (by simp)
          have := h x (by simp)
          omega
        · simpa using Eq.symm (List.mem_singleton.1 e)
      subst hx
      obtain ⟨m, hm, e⟩ := rise_bl x l' hp.1 (fun i hi => hp.2.2 i hi x (by simp))
      refine ⟨2 ^ x + m, by rw [Nat.pow_succ]; omega, ?_⟩
      rw [bl_succ, if_pos (by rw [Nat.testBit_two_pow_add_eq, Nat.testBit_lt_two_pow hm]; rfl)]
      rw [bl_congr (m' := m) fun i hi => Nat.testBit_two_pow_add_gt hi m, e]
    · obtain ⟨m, hm, e⟩ := rise_bl n l hr (fun i hi => by
        have := h i hi
        by_cases e : i = n
        · rw [e] at hi; exact absurd hi hn
        · omega)
      refine ⟨m, by rw [Nat.pow_succ]; omega, ?_⟩
      rw [bl_succ, if_neg (by rw [Nat.testBit_lt_two_pow hm]; simp), List.append_nil, e]
end Go.Proofs.Ytcdkgeeookcoeaa
