/- Determinants set by set of columns, ranks by minors, of rows turned into columns, of one row more: in plain Lean. -/
import Derived.Test.YtcdkgeeookcoeaaDtB
set_option linter.unusedVariables false
set_option linter.unusedSimpArgs false
namespace Go.Proofs.Ytcdkgeeookcoeaa

/-! ### the places from m on -/
def bh (m n s : Nat) : List Nat := (List.range' m (n - m)).filter fun i => s.testBit i
theorem bh_nil (n s : Nat) : bh n n s = [] := by simp [bh]
theorem bh_zero (n s : Nat) : bh 0 n s = bl n s := by unfold bh bl; rw [Nat.sub_zero, List.range_eq_range']
theorem bl_none (s : Nat) : bl 0 s = [] := by simp [bl]
theorem bh_step {m n : Nat} (h : m < n) (s : Nat) : bh m n s = if s.testBit m then m :: bh (m + 1) n s else bh (m + 1) n s := by
  unfold bh
  rw [show n - m = (n - (m + 1)) + 1 by omega, List.range'_succ, List.filter_cons]
theorem bl_bh {m n : Nat} (h : m ≤ n) (s : Nat) : bl n s = bl m s ++ bh m n s := by
  unfold bl bh
  rw [← List.filter_append, List.range_eq_range', List.range_eq_range']
  congr 1
  have := List.range'_append_1 (s := 0) (m := m) (n := n - m)
  rw [Nat.zero_add, show m + (n - m) = n by omega] at this
  exact this.symm
theorem bh_congr {m n s t : Nat} (h : ∀ i, m ≤ i → s.testBit i = t.testBit i) : bh m n s = bh m n t := by
  unfold bh
  refine List.filter_congr fun i hi => ?_
  rw [List.mem_range'_1] at hi
  rw [h i hi.1]
/-- A set less one place. -/
theorem bl_less {n s t c : Nat} (hc : c < n) (h : ∀ i, t.testBit i = (s.testBit i && !decide (i = c))) : bl n t = bl c s ++ bh (c + 1) n s := by
  rw [bl_bh (Nat.le_of_lt hc), bh_step hc, h c]
  simp only [decide_true, Bool.not_true, Bool.and_false, Bool.false_eq_true, if_false]
  congr 1
  · exact bl_congr fun i hi => by rw [h i]; simp; omega
  · exact bh_congr fun i hi => by rw [h i]; simp; omega
theorem bl_split {n s c : Nat} (hc : c < n) (h : s.testBit c = true) : bl n s = bl c s ++ c :: bh (c + 1) n s := by
  rw [bl_bh (Nat.le_of_lt hc), bh_step hc, if_pos h]
theorem bl_ne {n s : Nat} (hs : s < 2 ^ n) (h0 : s ≠ 0) : 0 < (bl n s).length := by
  obtain ⟨i, hi⟩ := Nat.exists_testBit_of_ne_zero h0
  have hin : i < n := by
    rcases Nat.lt_or_ge i n with h | h
    · exact h
    · rw [Nat.testBit_lt_two_pow (Nat.lt_of_lt_of_le hs (Nat.pow_le_pow_right (by omega) h))] at hi
      cases hi
  exact List.length_pos_of_mem (a := i) (by simp [bl, hi, hin])
theorem bl_zero (n : Nat) : bl n 0 = [] := by simp [bl]
theorem bl_le (n s : Nat) : (bl n s).length ≤ n := by
  unfold bl
  have := List.length_filter_le (fun i => s.testBit i) (List.range n)
  simpa using this
theorem bl_full (n : Nat) : bl n (2 ^ n - 1) = List.range n := by
  unfold bl
  rw [List.filter_eq_self]
  intro i hi
  rw [Nat.testBit_two_pow_sub_one]
  simpa using hi

/-! ### signed sums from the other end -/
def Tl (f : Nat → List Nat → Int) : List Nat → List Nat → Int
  | _, [] => 0
  | pre, c :: post => (if post.length % 2 = 1 then -(f c (pre ++ post)) else f c (pre ++ post)) + Tl f (pre ++ [c]) post
theorem Tl_Sg (f : Nat → List Nat → Int) : ∀ (post pre : List Nat), Tl f pre post = sgn (post.length - 1) * Sg (fun c r => f c (pre ++ r)) post
  | [], pre => by simp [Tl, Sg]
  | c :: post, pre => by
    have ih := Tl_Sg f post (pre ++ [c])
    have e : Sg (fun c' r => f c' (pre ++ (c :: r))) post = Sg (fun c' r => f c' (pre ++ [c] ++ r)) post := Sg_ext _ fun c' r => by simp
    simp only [Tl, Sg, List.length_cons, Nat.add_sub_cancel]
    rw [ih, e]
    have hs : (if post.length % 2 = 1 then -(f c (pre ++ post)) else f c (pre ++ post)) = sgn post.length * f c (pre ++ post) := by
      unfold sgn
      by_cases h : post.length % 2 = 1
      · rw [if_pos h, if_neg (by omega)]; omega
      · rw [if_neg h, if_pos (by omega)]; omega
    rw [hs]
    cases post with
    | nil => simp [Sg]
    | cons d post =>
      simp only [List.length_cons, Nat.add_sub_cancel, sgn_succ]
      generalize sgn post.length = s
      generalize Sg (fun c' r => f c' (pre ++ [c] ++ r)) (d :: post) = x
      rw [Int.mul_sub, Int.neg_mul, Int.neg_mul]; omega

/-- The minor of the first rows at the columns of a set. -/
def mn (rs : List (Nat → Int)) (cols : List Nat) (n s : Nat) : Int := Dt (rs.take (bl n s).length) ((bl n s).map fun j => cols.getD j 0)
/-- What a place of a set gives. -/
def mnF (rs : List (Nat → Int)) (cols : List Nat) (k : Nat) (r : Nat → Int) (c : Nat) (rest : List Nat) : Int := r (cols.getD c 0) * Dt (rs.take k) (rest.map fun j => cols.getD j 0)
theorem mn_zero (rs : List (Nat → Int)) (cols : List Nat) (n : Nat) : mn rs cols n 0 = 1 := by simp [mn, bl_zero]
theorem mn_sum {rs : List (Nat → Int)} {cols : List Nat} {n s k : Nat} {r : Nat → Int} (hk : (bl n s).length = k + 1) (hr : rs[k]? = some r) : mn rs cols n s = Tl (mnF rs cols k r) [] (bl n s) := by
  have hkl : k < rs.length := (List.getElem?_eq_some_iff.1 hr).1
  have e : rs.take (k + 1) = rs.take k ++ [r] := by
    rw [List.take_add_one, hr]; rfl
  unfold mn
  rw [hk, e, Dt_last, Sg_map, Tl_Sg, hk]
  simp only [List.length_take, Nat.add_sub_cancel, List.nil_append]
  rw [show min k rs.length = k by omega]
  rfl
theorem mn_less {rs : List (Nat → Int)} {cols : List Nat} {n s t c k : Nat} {r : Nat → Int} (hk : (bl n s).length = k + 1) (hc : c < n) (hb : s.testBit c = true) (h : ∀ i, t.testBit i = (s.testBit i && !decide (i = c))) : mnF rs cols k r c (bl c s ++ bh (c + 1) n s) = r (cols.getD c 0) * mn rs cols n t := by
  have e := bl_less (n := n) hc h
  have e2 := bl_split hc hb
  have hl : (bl n t).length = k := by
    rw [e]; rw [e2] at hk
    simp at hk ⊢; omega
  unfold mnF mn
  rw [hl, e]
theorem mn_full {rs : List (Nat → Int)} {cols : List Nat} {n : Nat} (h1 : rs.length = n) (h2 : cols.length = n) : mn rs cols n (2 ^ n - 1) = Dt rs cols := by
  unfold mn
  rw [bl_full, List.length_range, ← h1, List.take_length, h1, ← h2]
  congr 1
  apply List.ext_getElem
  · simp
  · intro i h1 h2
    simp [List.getD, h2]

/-! ### the rank by minors -/
theorem rank_minors {A : Nat → Nat → Int} {n w b : Nat} (hw : ∀ i c, w ≤ c → A i c = 0) (h1 : b = 0 ∨ ∃ p q, p < 2 ^ n ∧ q < 2 ^ w ∧ (bl n p).length = b ∧ (bl w q).length = b ∧ Dt ((bl n p).map fun i => A i) (bl w q) ≠ 0)
    (h2 : ∀ p q, p < 2 ^ n → q < 2 ^ w → b < (bl n p).length → (bl w q).length = (bl n p).length → Dt ((bl n p).map fun i => A i) (bl w q) = 0) : IsRank (rowsOf n A) b := by
  constructor
  · intro hv
    rcases h1 with rfl | ⟨p, q, _, _, h3, h4, h5⟩
    · have := hv [] [] rfl (by simp) rfl
      simp at this
    · refine h5 (hv _ _ (by simpa using h3) (fun r hr => ?_) h4)
      obtain ⟨i, hi, rfl⟩ := List.mem_map.1 hr
      exact mem_rowsOf.2 ⟨i, (bl_lt hi).1, rfl⟩
  · refine VS_V hw fun at_ cols l1 l2 r1 r2 m1 m2 => ?_
    obtain ⟨p, hp, rfl⟩ := rise_bl n at_ r1 m1
    obtain ⟨q, hq, rfl⟩ := rise_bl w cols r2 m2
    exact h2 p q hp hq (by omega) (by omega)

theorem Vm_rows (A : Nat → Nat → Int) (n : Nat) : Vm (n + 1) (rowsOf n A) := by
  intro rs cols h1 h2 h3
  obtain ⟨idx, rfl, hi⟩ := idx_of h2
  rw [List.length_map] at h1
  refine Dt_dup (fun hn => ?_) A cols
  have := nodup_lt hn hi
  omega
theorem rank_le_rows {A : Nat → Nat → Int} {n r : Nat} (h : IsRank (rowsOf n A) r) : r ≤ n := by
  rcases Nat.lt_or_ge n r with e | e
  · exact absurd (Vm_le e (Vm_rows A n)) h.1
  · exact e
theorem Vm_turn {A : Nat → Nat → Int} {n w k : Nat} (hn : ∀ i c, n ≤ i → A i c = 0) (h : Vm k (rowsOf n A)) : Vm k (rowsOf w fun c i => A i c) := by
  intro rs cols h1 h2 h3
  obtain ⟨idx, rfl, hi⟩ := idx_of h2
  rw [List.length_map] at h1
  have e : Dt (idx.map fun c => fun i => A i c) cols = Dt (cols.map fun i => A i) idx := by
    rw [Dt_turn A idx cols (by omega)]
  rw [e]
  by_cases hc : ∃ i, i ∈ cols ∧ n ≤ i
  · obtain ⟨i, hi1, hi2⟩ := hc
    obtain ⟨s, t, rfl⟩ := List.append_of_mem hi1
    have hz : A i = fun _ => 0 := funext fun c => hn i c hi2
    simp only [List.map_append, List.map_cons, hz]
    exact Dt_zeroRow _ _ _
  · exact h _ _ (by simpa using h3) (fun r hr => by
      obtain ⟨i, hi1, rfl⟩ := List.mem_map.1 hr
      exact mem_rowsOf.2 ⟨i, Nat.lt_of_not_le fun e => hc ⟨i, hi1, e⟩, rfl⟩) h1
theorem rank_turn {A : Nat → Nat → Int} {n w r : Nat} (hn : ∀ i c, n ≤ i → A i c = 0) (hw : ∀ i c, w ≤ c → A i c = 0) (h : IsRank (rowsOf n A) r) : IsRank (rowsOf w fun c i => A i c) r :=
  ⟨fun hv => h.1 (Vm_turn (A := fun c i => A i c) (n := w) (w := n) (fun c i hc => hw i c hc) hv), Vm_turn hn h.2⟩
theorem rank_le_cols {A : Nat → Nat → Int} {n w r : Nat} (hn : ∀ i c, n ≤ i → A i c = 0) (hw : ∀ i c, w ≤ c → A i c = 0) (h : IsRank (rowsOf n A) r) : r ≤ w := rank_le_rows (rank_turn hn hw h)
/-- Of as many rows as columns the rank is full just if the determinant is not 0. -/
theorem rank_full {A : Nat → Nat → Int} {n r : Nat} (hw : ∀ i c, n ≤ c → A i c = 0) (h : IsRank (rowsOf n A) r) : r = n ↔ Dt (rowsOf n A) (List.range n) ≠ 0 := by
  constructor
  · rintro rfl hd
    refine h.1 (VS_V hw fun at_ cols l1 l2 r1 r2 m1 m2 => ?_)
    have key : ∀ l : List Nat, l.length = r → rise l → (∀ i, i ∈ l → i < r) → l = List.range r := by
      intro l hl hr hm
      obtain ⟨p, hp, rfl⟩ := rise_bl r l hr hm
      have : (bl r p).Sublist (List.range r) := List.filter_sublist
      exact this.eq_of_length (by simpa using hl)
    rw [key at_ l1 r1 m1, key cols l2 r2 m2]
    exact hd
  · intro hd
    have h1 := rank_le_rows h
    rcases Nat.lt_or_ge r n with e | e
    · refine absurd (Vm_le e h.2 (rowsOf n A) (List.range n) (by simp) (fun r hr => hr) (by simp)) hd
    · omega
/-- A row more that the others make. -/
theorem rank_more {A : Nat → Nat → Int} {n r : Nat} (h : IsRank (rowsOf n A) r) (hs : Span (rowsOf n A) (A n)) : IsRank (rowsOf (n + 1) A) r := by
  refine h.made (fun q hq => ?_) (fun q hq => ?_)
  · obtain ⟨i, hi, rfl⟩ := mem_rowsOf.1 hq
    by_cases e : i = n
    · subst e; exact ⟨1, by omega, by simpa using hs⟩
    · exact one_span (mem_rowsOf.2 ⟨i, by omega, rfl⟩)
  · obtain ⟨i, hi, rfl⟩ := mem_rowsOf.1 hq
    exact one_span (mem_rowsOf.2 ⟨i, by omega, rfl⟩)
end Go.Proofs.Ytcdkgeeookcoeaa
