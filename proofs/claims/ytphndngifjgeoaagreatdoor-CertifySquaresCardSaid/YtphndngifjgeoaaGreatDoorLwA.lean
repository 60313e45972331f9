/- Lists of limbs and what they are worth: plain laws, no program in sight. -/
namespace Go.Proofs.YtphndngifjgeoaaGreatDoor

/-- What limbs are worth, the least first. -/
def val : List Nat → Nat
  | [] => 0
  | x :: t => x + 4294967296 * val t
def Lim (l : List Nat) : Prop := ∀ x, x ∈ l → x < 4294967296
/-- Limbs without those of 0 on top. -/
def trimL : List Nat → List Nat
  | [] => []
  | x :: t => if x = 0 ∧ trimL t = [] then [] else x :: trimL t
/-- A number's limbs. -/
def dig (v : Nat) : List Nat := if h : v = 0 then [] else v % 4294967296 :: dig (v / 4294967296)
  termination_by v
  decreasing_by omega

theorem Lim.tail {x : Nat} {t : List Nat} (h : Lim (x :: t)) : Lim t := fun y hy => h y (List.mem_cons_of_mem _ hy)
theorem Lim.head {x : Nat} {t : List Nat} (h : Lim (x :: t)) : x < 4294967296 := h x (List.mem_cons_self ..)
theorem Lim.append {a b : List Nat} (ha : Lim a) (hb : Lim b) : Lim (a ++ b) := fun x hx => (List.mem_append.1 hx).elim (ha x) (hb x)
theorem Lim.one {x : Nat} (h : x < 4294967296) : Lim [x] := fun y hy => by simp at hy; omega
theorem Lim.nil : Lim [] := fun x hx => by cases hx
theorem Lim.get {l : List Nat} (h : Lim l) {i : Nat} (hi : i < l.length) : l[i] < 4294967296 := h _ (List.getElem_mem hi)
theorem Lim.getD {l : List Nat} (h : Lim l) (i : Nat) : l.getD i 0 < 4294967296 := by
  by_cases hi : i < l.length
  · simp [List.getD, hi]; exact h.get hi
  · simp [List.getD, hi]
theorem Lim.take {l : List Nat} (h : Lim l) (n : Nat) : Lim (l.take n) := fun x hx => h x (List.mem_of_mem_take hx)
theorem Lim.drop {l : List Nat} (h : Lim l) (n : Nat) : Lim (l.drop n) := fun x hx => h x (List.mem_of_mem_drop hx)
theorem Lim.set {l : List Nat} (h : Lim l) (i : Nat) {x : Nat} (hx : x < 4294967296) : Lim (l.set i x) := fun y hy => by
  rcases List.mem_or_eq_of_mem_set hy with h' | h'
  · exact h y h'
  · omega
theorem Lim.trim {l : List Nat} (h : Lim l) : Lim (trimL l) := by
  induction l with
  | nil => exact h
  | cons x t ih =>
    simp only [trimL]
    split
    · exact Lim.nil
    · intro y hy
      rcases List.mem_cons.1 hy with e | e
      · subst e; exact h.head
      · exact ih h.tail y e
theorem Lim.replicate (n : Nat) : Lim (List.replicate n 0) := fun x hx => by have := List.eq_of_mem_replicate hx; omega

/-- Is there no limb of 0 on top? -/
def topOk (l : List Nat) : Prop := l.getD (l.length - 1) 1 ≠ 0
instance (l : List Nat) : Decidable (topOk l) := inferInstanceAs (Decidable (_ ≠ _))
@[simp] theorem val_nil : val [] = 0 := rfl
@[simp] theorem val_cons (x : Nat) (t : List Nat) : val (x :: t) = x + 4294967296 * val t := rfl
theorem val_append (a b : List Nat) : val (a ++ b) = val a + 4294967296 ^ a.length * val b := by
  induction a with
  | nil => simp
  | cons x t ih =>
    simp only [List.cons_append, val_cons, ih, List.length_cons, Nat.pow_succ, Nat.mul_add]
    rw [show 4294967296 ^ t.length * 4294967296 * val b = 4294967296 * (4294967296 ^ t.length * val b) by rw [Nat.mul_comm (4294967296 ^ t.length) 4294967296, Nat.mul_assoc]]
    omega
theorem val_lt {l : List Nat} (h : Lim l) : val l < 4294967296 ^ l.length := by
  induction l with
  | nil => simp
  | cons x t ih =>
    have := ih h.tail
    have := h.head
    simp only [val_cons, List.length_cons, Nat.pow_succ]
    omega
theorem val_replicate (n : Nat) : val (List.replicate n 0) = 0 := by
  induction n with
  | zero => rfl
  | succ n ih => simp [List.replicate_succ, ih]
theorem val_take_succ (l : List Nat) (i : Nat) : val (l.take (i + 1)) = val (l.take i) + 4294967296 ^ i * l.getD i 0 := by
  by_cases hi : i < l.length
  · rw [List.take_succ_eq_append_getElem hi, val_append, List.length_take, Nat.min_eq_left (by omega)]
    simp [List.getD, hi]
  · rw [List.take_of_length_le (by omega), List.take_of_length_le (by omega)]
    simp [List.getD, hi]
theorem val_take_all {l : List Nat} {n : Nat} (h : l.length ≤ n) : val (l.take n) = val l := by rw [List.take_of_length_le h]
theorem val_trim (l : List Nat) : val (trimL l) = val l := by
  induction l with
  | nil => rfl
  | cons x t ih =>
    simp only [trimL]
    split
    · rename_i h; rw [h.2] at ih; simp at ih; simp [h.1, ← ih]
    · simp [ih]
theorem val_set {l : List Nat} {i : Nat} (hi : i < l.length) (x : Nat) : val (l.set i x) + 4294967296 ^ i * l[i] = val l + 4294967296 ^ i * x := by
  induction l generalizing i with
  | nil => simp at hi
  | cons y t ih =>
    cases i with
    | zero => simp; omega
    | succ i =>
      have h := ih (i := i) (by simpa using hi)
      simp only [List.set_cons_succ, val_cons, List.getElem_cons_succ, Nat.pow_succ]
      rw [show ∀ z, 4294967296 ^ i * 4294967296 * z = 4294967296 * (4294967296 ^ i * z) from fun z => by rw [Nat.mul_comm (4294967296 ^ i) 4294967296, Nat.mul_assoc], show ∀ z, 4294967296 ^ i * 4294967296 * z = 4294967296 * (4294967296 ^ i * z) from fun z => by rw [Nat.mul_comm (4294967296 ^ i) 4294967296, Nat.mul_assoc]]
      omega

theorem val_split (l : List Nat) (j : Nat) : val l = val (l.take j) + 4294967296 ^ j * val (l.drop j) := by
  by_cases h : j ≤ l.length
  · have := val_append (l.take j) (l.drop j)
    rw [List.take_append_drop, List.length_take, Nat.min_eq_left h] at this
    exact this
  · rw [List.take_of_length_le (by omega), List.drop_eq_nil_of_le (by omega)]; simp
theorem val_lt_of {p x y r s : Nat} (hr : r < p) (h : x < y) : r + p * x < s + p * y := by
  have : p * (x + 1) ≤ p * y := Nat.mul_le_mul_left p h
  rw [Nat.mul_add] at this
  omega
/-- The highest limb in which two differ tells which is more. -/
theorem val_lt_top {a b : List Nat} {j : Nat} (la : Lim a) (hja : j < a.length) (hjb : j < b.length) (hd : a.drop (j + 1) = b.drop (j + 1)) (hx : a[j] < b[j]) : val a < val b := by
  rw [val_split a j, val_split b j, List.drop_eq_getElem_cons hja, List.drop_eq_getElem_cons hjb, val_cons, val_cons, hd]
  refine val_lt_of ?_ (by omega)
  have := val_lt (la.take j)
  rwa [List.length_take, Nat.min_eq_left (by omega)] at this
/-- More limbs, the topmost not 0, are more. -/
theorem val_lt_len {a b : List Nat} (la : Lim a) (hb : topOk b) (h : a.length < b.length) : val a < val b := by
  have h1 := val_lt la
  have hj : b.length - 1 < b.length := by omega
  rw [val_split b (b.length - 1), List.drop_eq_getElem_cons hj, val_cons]
  have h2 : 0 < b[b.length - 1] := by
    have := hb
    simp only [topOk, List.getD, List.getElem?_eq_getElem hj] at this
    simp at this; omega
  have h3 : 4294967296 ^ a.length ≤ 4294967296 ^ (b.length - 1) := Nat.pow_le_pow_right (by omega) (by omega)
  have h4 : 4294967296 ^ (b.length - 1) * 1 ≤ 4294967296 ^ (b.length - 1) * (b[b.length - 1] + 4294967296 * val (b.drop (b.length - 1 + 1))) := Nat.mul_le_mul_left _ (by omega)
  omega

theorem dig_zero : dig 0 = [] := by rw [dig]; simp
theorem dig_pos {v : Nat} (h : v ≠ 0) : dig v = v % 4294967296 :: dig (v / 4294967296) := by rw [dig]; simp [h]
theorem dig_eq_nil {v : Nat} : dig v = [] ↔ v = 0 := by
  constructor
  · intro h; by_cases hv : v = 0
    · exact hv
    · rw [dig_pos hv] at h; cases h
  · rintro rfl; exact dig_zero
theorem val_dig (v : Nat) : val (dig v) = v := by
  induction v using Nat.strongRecOn with
  | _ v ih =>
    by_cases h : v = 0
    · subst h; simp [dig_zero]
    · rw [dig_pos h, val_cons, ih _ (by omega)]; omega
theorem Lim.dig (v : Nat) : Lim (dig v) := by
  induction v using Nat.strongRecOn with
  | _ v ih =>
    by_cases h : v = 0
    · subst h; rw [dig_zero]; exact Lim.nil
    · rw [dig_pos h]
      intro y hy
      rcases List.mem_cons.1 hy with e | e
      · omega
      · exact ih _ (by omega) y e
/-- Limbs without those of 0 on top are what the number has. -/
theorem trim_dig {l : List Nat} (h : Lim l) : trimL l = dig (val l) := by
  induction l with
  | nil => simp [trimL, dig_zero]
  | cons x t ih =>
    have hx := h.head
    have ih := ih h.tail
    simp only [trimL, val_cons]
    by_cases hv : x + 4294967296 * val t = 0
    · rw [hv, dig_zero, if_pos]
      exact ⟨by omega, by rw [ih, show val t = 0 by omega, dig_zero]⟩
    · rw [dig_pos hv, show (x + 4294967296 * val t) % 4294967296 = x by omega, show (x + 4294967296 * val t) / 4294967296 = val t by omega, if_neg, ih]
      rintro ⟨h0, h1⟩
      rw [ih, dig_eq_nil] at h1
      omega
theorem trim_snoc_zero (l : List Nat) : trimL (l ++ [0]) = trimL l := by
  induction l with
  | nil => simp [trimL]
  | cons x t ih => simp [trimL, ih]
theorem trim_snoc {l : List Nat} {x : Nat} (h : x ≠ 0) : trimL (l ++ [x]) = l ++ [x] := by
  induction l with
  | nil => simp [trimL, h]
  | cons y t ih => simp [trimL, ih]
theorem trim_take {l : List Nat} {n : Nat} (h : ∀ i, n ≤ i → l.getD i 0 = 0) : trimL l = trimL (l.take n) := by
  induction l generalizing n with
  | nil => simp
  | cons x t ih =>
    cases n with
    | zero =>
      have hx := h 0 (by omega)
      have := ih (n := 0) (fun i hi => by simpa [List.getD] using h (i + 1) (by omega))
      simp [List.getD] at hx
      simp [trimL] at this ⊢
      exact ⟨hx, this⟩
    | succ n =>
      have := ih (n := n) (fun i hi => by simpa [List.getD] using h (i + 1) (by omega))
      simp [trimL, this]
theorem trim_right {l : List Nat} (h : topOk l) : trimL l = l := by
  by_cases hl : l = []
  · subst hl; rfl
  · have h2 := List.dropLast_concat_getLast hl
    rw [← h2]
    apply trim_snoc
    have hlen : 0 < l.length := List.length_pos_iff.2 hl
    simp only [topOk, List.getD] at h
    rw [List.getLast_eq_getElem]
    rw [List.getElem?_eq_getElem (by omega)] at h
    simpa using h
theorem right_dig {l : List Nat} (hl : Lim l) (h : topOk l) : dig (val l) = l := by rw [← trim_dig hl, trim_right h]
theorem length_dig {l : List Nat} (hl : Lim l) : (dig (val l)).length ≤ l.length := by
  rw [← trim_dig hl]
  clear hl
  induction l with
  | nil => simp [trimL]
  | cons x t ih =>
    simp only [trimL]
    split <;> simp; omega
theorem topOk_trim (l : List Nat) : topOk (trimL l) := by
  induction l with
  | nil => simp [topOk, trimL]
  | cons x t ih =>
    simp only [trimL]
    split
    · simp [topOk]
    · rename_i h
      by_cases ht : trimL t = []
      · simp [ht] at h ⊢; simpa [topOk] using h
      · have hl : 0 < (trimL t).length := List.length_pos_iff.2 ht
        simp only [topOk, List.getD] at ih ⊢
        rw [List.length_cons, Nat.add_sub_cancel]
        obtain ⟨m, hm⟩ : ∃ m, (trimL t).length = m + 1 := ⟨(trimL t).length - 1, by omega⟩
        rw [hm] at ih ⊢
        simpa using ih
theorem topOk_dig (v : Nat) : topOk (dig v) := by
  have := topOk_trim (dig v)
  rwa [trim_dig (Lim.dig v), val_dig] at this
end Go.Proofs.YtphndngifjgeoaaGreatDoor
