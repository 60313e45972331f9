/- Determinants, in plain Lean: expansion by the first row; rows and columns that change places; linearity; the expansions by the last row and by the first column; rows as columns. -/
import Derived.Orders
set_option linter.unusedVariables false
set_option linter.unusedSimpArgs false
namespace Go.Proofs.Ytcdkgeeookcoeaa

/-- The signed sum over all ways to take one out of a list. -/
def Sg {α : Type} : (α → List α → Int) → List α → Int
  | _, [] => 0
  | f, c :: post => f c post - Sg (fun c' rest => f c' (c :: rest)) post
theorem Sg_congr {α : Type} : ∀ (l : List α) {f g : α → List α → Int}, (∀ c rest, c ∈ l → (c :: rest).Perm l → f c rest = g c rest) → Sg f l = Sg g l
  | [], f, g, h => rfl
  | c :: post, f, g, h => by
    unfold Sg
    rw [h c post (by simp) (List.Perm.refl _), Sg_congr post fun c' rest hc hp => h c' (c :: rest) (by simp [hc]) ((List.Perm.swap c c' rest).trans (hp.cons c))]
theorem Sg_ext {α : Type} (l : List α) {f g : α → List α → Int} (h : ∀ c rest, f c rest = g c rest) : Sg f l = Sg g l := Sg_congr l fun c rest _ _ => h c rest
theorem Sg_zero {α : Type} : ∀ (l : List α), Sg (fun (_ : α) _ => 0) l = 0
  | [] => rfl
  | c :: post => by unfold Sg; rw [Sg_zero post]; rfl
theorem Sg_add {α : Type} : ∀ (l : List α) (f g : α → List α → Int), Sg (fun c r => f c r + g c r) l = Sg f l + Sg g l
  | [], f, g => rfl
  | c :: post, f, g => by simp only [Sg]; rw [Sg_add post (fun c' r => f c' (c :: r)) (fun c' r => g c' (c :: r))]; omega
theorem Sg_mul {α : Type} (x : Int) : ∀ (l : List α) (f : α → List α → Int), Sg (fun c r => x * f c r) l = x * Sg f l
  | [], f => by simp [Sg]
  | c :: post, f => by simp only [Sg]; rw [Sg_mul x post (fun c' r => f c' (c :: r)), Int.mul_sub]
theorem Sg_neg {α : Type} (l : List α) (f : α → List α → Int) : Sg (fun c r => - f c r) l = - Sg f l := by
  have := Sg_mul (-1) l f
  rw [Sg_ext l (g := fun c r => -1 * f c r) (fun c r => by omega), this]; omega
theorem Sg_sub {α : Type} (l : List α) (f g : α → List α → Int) : Sg (fun c r => f c r - g c r) l = Sg f l - Sg g l := by
  rw [Sg_ext l (g := fun c r => f c r + - g c r) (fun c r => by omega), Sg_add, Sg_neg]; omega
/-- Two taken out, one behind the other: the other way round it is the other sign. -/
theorem Sg_swap {α : Type} : ∀ (l : List α) (g : α → α → List α → Int), Sg (fun c r => Sg (fun c' r' => g c c' r') r) l = - Sg (fun c r => Sg (fun c' r' => g c' c r') r) l
  | [], g => rfl
  | a :: rest, g => by
    have ih := Sg_swap rest (fun c c' r => g c c' (a :: r))
    have e1 : Sg (fun c r => Sg (fun c' r' => g c c' r') r) (a :: rest) = Sg (g a) rest - (Sg (fun c => g c a) rest - Sg (fun c r => Sg (fun c' r' => g c c' (a :: r')) r) rest) := by
      simp only [Sg, Sg_sub]
    have e2 : Sg (fun c r => Sg (fun c' r' => g c' c r') r) (a :: rest) = Sg (fun c => g c a) rest - (Sg (g a) rest - Sg (fun c r => Sg (fun c' r' => g c' c (a :: r')) r) rest) := by
      simp only [Sg, Sg_sub]
    rw [e1, e2, ih]
    omega
theorem Sg_swapLists {α β : Type} : ∀ (l : List α) (m : List β) (g : α → List α → β → List β → Int), Sg (fun c r => Sg (fun c' r' => g c r c' r') m) l = Sg (fun c' r' => Sg (fun c r => g c r c' r') l) m
  | [], m, g => by simp [Sg, Sg_zero]
  | a :: l, m, g => by
    simp only [Sg]
    rw [Sg_swapLists l m (fun c r c' r' => g c (a :: r) c' r'), Sg_sub]

/-- The determinant of rows at columns, by the first row. -/
def Dt : List (Nat → Int) → List Nat → Int
  | [], _ => 1
  | r :: rs, cols => Sg (fun c rest => r c * Dt rs rest) cols
@[simp] theorem Dt_nil (cols : List Nat) : Dt [] cols = 1 := rfl
theorem Dt_cons (r : Nat → Int) (rs : List (Nat → Int)) (cols : List Nat) : Dt (r :: rs) cols = Sg (fun c rest => r c * Dt rs rest) cols := rfl

theorem Dt_swap2 (a b : Nat → Int) (rs : List (Nat → Int)) (cols : List Nat) : Dt (a :: b :: rs) cols = - Dt (b :: a :: rs) cols := by
  have e : ∀ a b : Nat → Int, Dt (a :: b :: rs) cols = Sg (fun c r => Sg (fun c' r' => a c * b c' * Dt rs r') r) cols := fun a b => by
    rw [Dt_cons]
    refine Sg_ext _ fun c rest => ?_
    rw [Dt_cons, ← Sg_mul]
    exact Sg_ext _ fun c' r' => by rw [Int.mul_assoc]
  rw [e a b, Sg_swap, e b a]
  congr 1
  refine Sg_ext _ fun c r => Sg_ext _ fun c' r' => ?_
  rw [Int.mul_comm (a c') (b c)]

theorem Dt_congr_tail (pre : List (Nat → Int)) {x y : List (Nat → Int)} {k : Int} (h : ∀ cols, Dt x cols = k * Dt y cols) : ∀ cols, Dt (pre ++ x) cols = k * Dt (pre ++ y) cols := by
  induction pre with
  | nil => exact h
  | cons r pre ih =>
    intro cols
    simp only [List.cons_append, Dt_cons]
    rw [← Sg_mul]
    exact Sg_ext _ fun c rest => by rw [ih, ← Int.mul_assoc, ← Int.mul_assoc, Int.mul_comm k]
theorem Dt_swapAt (pre : List (Nat → Int)) (a b : Nat → Int) (post : List (Nat → Int)) (cols : List Nat) : Dt (pre ++ a :: b :: post) cols = - Dt (pre ++ b :: a :: post) cols := by
  have := Dt_congr_tail pre (x := a :: b :: post) (y := b :: a :: post) (k := -1) (fun cols => by rw [Dt_swap2]; omega) cols
  rw [this]; omega

def sgn (n : Nat) : Int := if n % 2 = 0 then 1 else -1
theorem sgn_zero : sgn 0 = 1 := rfl
theorem sgn_succ (n : Nat) : sgn (n + 1) = - sgn n := by
  unfold sgn
  by_cases h : n % 2 = 0
  · rw [if_neg (by omega), if_pos h]
  · rw [if_pos (by omega), if_neg h]; rfl
theorem sgn_mul (n m : Nat) : sgn n * sgn m = sgn (n + m) := by
  unfold sgn
  by_cases h : n % 2 = 0 <;> by_cases h' : m % 2 = 0 <;> simp [h, h'] <;> omega
theorem sgn_sq (n : Nat) : sgn n * sgn n = 1 := by rw [sgn_mul]; unfold sgn; rw [if_pos (by omega)]
theorem sgn_ne (n : Nat) : sgn n ≠ 0 := by unfold sgn; split <;> omega

/-- A row goes down behind others. -/
theorem Dt_move (pre : List (Nat → Int)) (x : Nat → Int) (post : List (Nat → Int)) (cols : List Nat) : ∀ mid : List (Nat → Int), Dt (pre ++ x :: (mid ++ post)) cols = sgn mid.length * Dt (pre ++ mid ++ x :: post) cols := by
  intro mid
  induction mid generalizing pre with
  | nil => simp [sgn_zero]
  | cons m mid ih =>
    rw [List.cons_append, Dt_swapAt]
    have := ih (pre ++ [m])
    simp only [List.append_assoc, List.singleton_append] at this
    rw [this, List.length_cons, sgn_succ]
    simp only [List.append_assoc, List.cons_append, List.singleton_append]
    rw [Int.neg_mul]
/-- Two rows change places. -/
theorem Dt_exchange (pre : List (Nat → Int)) (a : Nat → Int) (mid : List (Nat → Int)) (b : Nat → Int) (post : List (Nat → Int)) (cols : List Nat) : Dt (pre ++ a :: (mid ++ b :: post)) cols = - Dt (pre ++ b :: (mid ++ a :: post)) cols := by
  have h1 := Dt_move pre a (b :: post) cols mid
  have h2 := Dt_move pre b (a :: post) cols mid
  have h3 := Dt_swapAt (pre ++ mid) a b post cols
  rw [h1, h3, h2, Int.mul_neg]
/-- Two equal rows. -/
theorem Dt_same (pre : List (Nat → Int)) (a : Nat → Int) (mid post : List (Nat → Int)) (cols : List Nat) : Dt (pre ++ a :: (mid ++ a :: post)) cols = 0 := by
  have := Dt_exchange pre a mid a post cols
  omega
/-- The expansion by the last row. -/
theorem Dt_last (r : Nat → Int) : ∀ (rs : List (Nat → Int)) (cols : List Nat), Dt (rs ++ [r]) cols = sgn rs.length * Sg (fun c rest => r c * Dt rs rest) cols
  | [], cols => by rw [List.nil_append, Dt_cons]; simp [sgn_zero]
  | r0 :: rs, cols => by
    have := Dt_move [] r [] cols (r0 :: rs)
    simp only [List.nil_append, List.append_nil] at this
    rw [Dt_cons] at this
    rw [this, ← Int.mul_assoc, sgn_sq, Int.one_mul]
/-- Linear in each row. -/
theorem Dt_linear (pre : List (Nat → Int)) (x : Int) (r u : Nat → Int) (post : List (Nat → Int)) : ∀ cols, Dt (pre ++ (fun c => x * r c + u c) :: post) cols = x * Dt (pre ++ r :: post) cols + Dt (pre ++ u :: post) cols := by
  induction pre with
  | nil =>
    intro cols
    simp only [List.nil_append, Dt_cons]
    rw [← Sg_mul, ← Sg_add]
    exact Sg_ext _ fun c rest => by rw [Int.add_mul, Int.mul_assoc]
  | cons q pre ih =>
    intro cols
    simp only [List.cons_append, Dt_cons]
    rw [← Sg_mul, ← Sg_add]
    exact Sg_ext _ fun c rest => by rw [ih, Int.mul_add, ← Int.mul_assoc, ← Int.mul_assoc, Int.mul_comm (q c) x]
theorem Dt_zeroRow (pre post : List (Nat → Int)) (cols : List Nat) : Dt (pre ++ (fun _ => 0) :: post) cols = 0 := by
  have := Dt_linear pre 1 (fun _ => 0) (fun _ => 0) post cols
  simp only [Int.mul_zero, Int.add_zero, Int.one_mul] at this
  omega
theorem Dt_congr_cols : ∀ (rs rs' : List (Nat → Int)) (cols : List Nat), rs.length = rs'.length → (∀ (i : Nat) (r r' : Nat → Int) (c : Nat), rs[i]? = some r → rs'[i]? = some r' → c ∈ cols → r c = r' c) → Dt rs cols = Dt rs' cols
  | [], [], cols, _, _ => rfl
  | r :: rs, [], cols, h, _ => by simp at h
  | [], r :: rs, cols, h, _ => by simp at h
  | r :: rs, r' :: rs', cols, h, hc => by
    rw [Dt_cons, Dt_cons]
    refine Sg_congr _ fun c rest hm hp => ?_
    rw [hc 0 r r' c rfl rfl hm, Dt_congr_cols rs rs' rest (by simpa using h) fun i a b k h1 h2 hk => hc (i + 1) a b k (by simpa using h1) (by simpa using h2) (hp.mem_iff.1 (by simp [hk]))]
/-- The expansion by the first column. -/
theorem Dt_column (c : Nat) : ∀ (rs : List (Nat → Int)) (cs : List Nat), rs.length = cs.length + 1 → Dt rs (c :: cs) = Sg (fun r rest => r c * Dt rest cs) rs
  | [], cs, h => by simp at h
  | r :: rs, cs, h => by
    have h' : rs.length = cs.length := by simpa using h
    have e : Sg (fun c' rest => r c' * Dt rs (c :: rest)) cs = Sg (fun r' rs' => r' c * Dt (r :: rs') cs) rs := by
      rw [Sg_congr cs (g := fun c' rest => Sg (fun r' rs' => r c' * (r' c * Dt rs' rest)) rs) (fun c' rest hm hp => by
        rw [Dt_column c rs rest (by have := hp.length_eq; simp at this; omega), ← Sg_mul])]
      rw [Sg_swapLists]
      refine Sg_ext _ fun r' rs' => ?_
      rw [Dt_cons, ← Sg_mul]
      exact Sg_ext _ fun c' rest => by rw [← Int.mul_assoc, ← Int.mul_assoc, Int.mul_comm (r c')]
    rw [Dt_cons, Sg, e, Sg]
theorem Sg_map {α β : Type} (h : α → β) : ∀ (l : List α) (f : β → List β → Int), Sg f (l.map h) = Sg (fun a r => f (h a) (r.map h)) l
  | [], f => rfl
  | a :: l, f => by
    simp only [List.map_cons, Sg]
    rw [Sg_map h l]
/-- Rows as columns. -/
theorem Dt_turn (A : Nat → Nat → Int) : ∀ (cols idx : List Nat), idx.length = cols.length → Dt (idx.map fun i => A i) cols = Dt (cols.map fun c => fun i => A i c) idx
  | [], idx, h => by
    have : idx = [] := List.eq_nil_of_length_eq_zero h
    subst this; rfl
  | c :: cs, idx, h => by
    rw [Dt_column c _ cs (by simpa using h), Sg_map, List.map_cons, Dt_cons]
    refine Sg_congr _ fun i rest hm hp => ?_
    rw [Dt_turn A cs rest (by have := hp.length_eq; simp at this h; omega)]

/-- Rows in another order: another sign at most. -/
theorem Dt_perm {x y : List (Nat → Int)} (h : x.Perm y) : ∃ s : Int, s ≠ 0 ∧ ∀ cols, Dt x cols = s * Dt y cols := by
  induction h with
  | nil => exact ⟨1, by omega, fun cols => by simp⟩
  | cons r _ ih =>
    obtain ⟨s, h0, h⟩ := ih
    exact ⟨s, h0, fun cols => by
      rw [Dt_cons, Dt_cons, ← Sg_mul]
      exact Sg_ext _ fun c rest => by rw [h, ← Int.mul_assoc, ← Int.mul_assoc, Int.mul_comm s]⟩
  | swap a b l => exact ⟨-1, by omega, fun cols => by rw [Dt_swap2]; omega⟩
  | trans _ _ ih1 ih2 =>
    obtain ⟨s, h0, h⟩ := ih1
    obtain ⟨t, k0, k⟩ := ih2
    exact ⟨s * t, Int.mul_ne_zero h0 k0, fun cols => by rw [h, k, Int.mul_assoc]⟩
theorem Dt_zeroCol (c : Nat) : ∀ (rs : List (Nat → Int)) (cols : List Nat), rs.length = cols.length → c ∈ cols → (∀ r, r ∈ rs → r c = 0) → Dt rs cols = 0
  | [], cols, h, hc, _ => by
    have : cols = [] := List.eq_nil_of_length_eq_zero (by simpa using h.symm)
    subst this; simp at hc
  | r :: rs, cols, h, hc, hz => by
    rw [Dt_cons, ← Sg_zero cols]
    refine Sg_congr _ fun c' rest hm hp => ?_
    have hl := hp.length_eq
    rcases List.mem_cons.1 (hp.mem_iff.2 hc) with e | e
    · rw [← e, hz r (by simp), Int.zero_mul]
    · rw [Dt_zeroCol c rs rest (by simp at hl h; omega) e fun r hr => hz r (by simp [hr]), Int.mul_zero]

/-! ### ranks -/
inductive Span (A : List (Nat → Int)) : (Nat → Int) → Prop
  | zero : Span A (fun _ => 0)
  | step (x : Int) (r u : Nat → Int) : r ∈ A → Span A u → Span A (fun c => x * r c + u c)
theorem Span.mem {A : List (Nat → Int)} {r : Nat → Int} (h : r ∈ A) : Span A r := by
  have := Span.step 1 r _ h Span.zero
  simpa using this
theorem Span.mul {A : List (Nat → Int)} {r : Nat → Int} (y : Int) (h : Span A r) : Span A (fun c => y * r c) := by
  induction h with
  | zero => simpa using Span.zero
  | step x r u hr _ ih =>
    have := Span.step (y * x) r _ hr ih
    have e : (fun c => y * x * r c + y * u c) = fun c => y * (x * r c + u c) := funext fun c => by rw [Int.mul_add, Int.mul_assoc]
    rwa [e] at this
theorem Span.add {A : List (Nat → Int)} {r q : Nat → Int} (h : Span A r) (h' : Span A q) : Span A (fun c => r c + q c) := by
  induction h with
  | zero => simpa using h'
  | step x r u hr _ ih =>
    have := Span.step x r _ hr ih
    have e : (fun c => x * r c + (u c + q c)) = fun c => x * r c + u c + q c := funext fun c => by omega
    rwa [e] at this

/-- All minors of k rows are 0. -/
def Vm (k : Nat) (A : List (Nat → Int)) : Prop := ∀ rs cols, rs.length = k → (∀ r, r ∈ rs → r ∈ A) → cols.length = k → Dt rs cols = 0
theorem Vm_succ {k : Nat} {A : List (Nat → Int)} (h : Vm k A) : Vm (k + 1) A := by
  intro rs cols h1 h2 h3
  match rs, h1 with
  | r :: rs, h1 =>
    rw [Dt_cons, ← Sg_zero cols]
    refine Sg_congr _ fun c rest hm hp => ?_
    have hl := hp.length_eq
    rw [h rs rest (by simpa using h1) (fun r hr => h2 r (by simp [hr])) (by simp at hl; omega), Int.mul_zero]
theorem Vm_le {k m : Nat} {A : List (Nat → Int)} (hkm : k ≤ m) (h : Vm k A) : Vm m A := by
  induction hkm with
  | refl => exact h
  | step _ ih => exact Vm_succ ih
theorem Vm_span {k : Nat} {A : List (Nat → Int)} (h : Vm k A) : ∀ (n : Nat) (pre post : List (Nat → Int)) (cols : List Nat), pre.length = n → pre.length + post.length = k → (∀ r, r ∈ pre → Span A r) → (∀ r, r ∈ post → r ∈ A) → cols.length = k → Dt (pre ++ post) cols = 0
  | 0, pre, post, cols, hn, hk, h1, h2, h3 => by
    have : pre = [] := List.eq_nil_of_length_eq_zero hn
    subst this
    exact h post cols (by simpa using hk) h2 h3
  | n + 1, pre, post, cols, hn, hk, h1, h2, h3 => by
    have hne : pre ≠ [] := fun e => by subst e; simp at hn
    obtain ⟨pre', v, rfl⟩ : ∃ p v, pre = p ++ [v] := ⟨pre.dropLast, pre.getLast hne, (List.dropLast_concat_getLast hne).symm⟩
    have hv : Span A v := h1 v (by simp)
    simp only [List.append_assoc, List.singleton_append, List.length_append, List.length_singleton] at hk hn ⊢
    have h1' : ∀ r, r ∈ pre' → Span A r := fun r hr => h1 r (by simp [hr])
    clear h1 hne
    induction hv with
    | zero => exact Dt_zeroRow _ _ _
    | step x r u hr _ ih =>
      rw [Dt_linear, ih, Vm_span h n pre' (r :: post) cols (by omega) (by simp; omega) h1' (fun q hq => by rcases List.mem_cons.1 hq with e | e; exact e ▸ hr; exact h2 q e) h3]
      simp
/-- Rows that, each taken often enough, are made of others: what is 0 of the others is 0 of them. -/
theorem Vm_made {k : Nat} {A B : List (Nat → Int)} (h : Vm k A) (hB : ∀ r, r ∈ B → ∃ p : Int, p ≠ 0 ∧ Span A (fun c => p * r c)) : Vm k B := by
  have key : ∀ (rs pre : List (Nat → Int)) (cols : List Nat), pre.length + rs.length = k → (∀ r, r ∈ pre → Span A r) → (∀ r, r ∈ rs → r ∈ B) → cols.length = k → Dt (pre ++ rs) cols = 0 := by
    intro rs
    induction rs with
    | nil => intro pre cols hk h1 _ h3; exact Vm_span h pre.length pre [] cols rfl hk h1 (by simp) h3
    | cons r rs ih =>
      intro pre cols hk h1 h2 h3
      obtain ⟨p, hp, hs⟩ := hB r (h2 r (by simp))
      have h4 := ih (pre ++ [fun c => p * r c]) cols (by simp at hk ⊢; omega) (fun q hq => by rcases List.mem_append.1 hq with e | e; exact h1 q e; simp at e; exact e ▸ hs) (fun q hq => h2 q (by simp [hq])) h3
      have h5 := Dt_linear pre p r (fun _ => 0) rs cols
      rw [Dt_zeroRow, Int.add_zero] at h5
      have e : (fun c => p * r c + 0) = fun c => p * r c := funext fun c => by omega
      rw [e] at h5
      simp only [List.append_assoc, List.singleton_append] at h4
      rw [h4] at h5
      rcases Int.mul_eq_zero.1 h5.symm with e | e
      · exact absurd e hp
      · exact e
  intro rs cols h1 h2 h3
  exact key rs [] cols (by simpa using h1) (by simp) h2 h3
/-- The rank: the greatest number of rows of a minor that is not 0. -/
def IsRank (A : List (Nat → Int)) (r : Nat) : Prop := ¬ Vm r A ∧ Vm (r + 1) A
theorem IsRank.unique {A : List (Nat → Int)} {r r' : Nat} (h : IsRank A r) (h' : IsRank A r') : r = r' := by
  rcases Nat.lt_trichotomy r r' with e | e | e
  · exact absurd (Vm_le e h.2) h'.1
  · exact e
  · exact absurd (Vm_le e h'.2) h.1
theorem IsRank.made {A B : List (Nat → Int)} {r : Nat} (h : IsRank A r) (hB : ∀ r, r ∈ B → ∃ p : Int, p ≠ 0 ∧ Span A (fun c => p * r c)) (hA : ∀ r, r ∈ A → ∃ p : Int, p ≠ 0 ∧ Span B (fun c => p * r c)) : IsRank B r :=
  ⟨fun hv => h.1 (Vm_made hv hA), Vm_made h.2 hB⟩

/-! ### minors of rising places -/
def rise (l : List Nat) : Prop := l.Pairwise (· < ·)
/-- All minors of k rows, k columns at rising places are 0. -/
def VS (k : Nat) (A : Nat → Nat → Int) (n w : Nat) : Prop := ∀ at_ cols : List Nat, at_.length = k → cols.length = k → rise at_ → rise cols → (∀ i, i ∈ at_ → i < n) → (∀ c, c ∈ cols → c < w) → Dt (at_.map fun i => A i) cols = 0
theorem sorted_of (l : List Nat) : ∃ m, l.Perm m ∧ m.Pairwise (· ≤ ·) := by
  refine ⟨l.mergeSort, (List.mergeSort_perm l _).symm, ?_⟩
  have := List.pairwise_mergeSort (le := fun a b : Nat => decide (a ≤ b)) (fun a b c h1 h2 => by simp at *; omega) (fun a b => by simp; omega) l
  exact this.imp fun h => by simpa using h
theorem rise_of {m : List Nat} (h : m.Pairwise (· ≤ ·)) (hn : m.Nodup) : rise m := by
  unfold rise
  exact (h.and hn).imp fun ⟨a, b⟩ => Nat.lt_of_le_of_ne a b
theorem Dt_dup {l : List Nat} (h : ¬ l.Nodup) (A : Nat → Nat → Int) (cols : List Nat) : Dt (l.map fun i => A i) cols = 0 := by
  induction l generalizing cols with
  | nil => simp at h
  | cons a l ih =>
    by_cases ha : a ∈ l
    · obtain ⟨s, t, rfl⟩ := List.append_of_mem ha
      simp only [List.map_cons, List.map_append]
      exact Dt_same [] (A a) (s.map fun i => A i) (t.map fun i => A i) cols
    · have hl : ¬ l.Nodup := fun e => h (List.nodup_cons.2 ⟨ha, e⟩)
      rw [List.map_cons, Dt_cons, ← Sg_zero cols]
      exact Sg_ext _ fun c rest => by rw [ih hl, Int.mul_zero]
theorem VS_V {k : Nat} {A : Nat → Nat → Int} {n w : Nat} (hw : ∀ i c, w ≤ c → A i c = 0) (h : VS k A n w) : Vm k ((List.range n).map fun i => A i) := by
  intro rs cols h1 h2 h3
  have hidx : ∃ idx : List Nat, rs = idx.map (fun i => A i) ∧ ∀ i, i ∈ idx → i < n := by
    clear h1
    induction rs with
    | nil => exact ⟨[], rfl, by simp⟩
    | cons r rs ih =>
      obtain ⟨idx, e, hi⟩ := ih fun r hr => h2 r (by simp [hr])
      have := h2 r (by simp)
      simp only [List.mem_map, List.mem_range] at this
      obtain ⟨i, hin, rfl⟩ := this
      exact ⟨i :: idx, by simp [e], fun j hj => by rcases List.mem_cons.1 hj with e | e; exact e ▸ hin; exact hi j e⟩
  obtain ⟨idx, rfl, hi⟩ := hidx
  rw [List.length_map] at h1
  by_cases hd : idx.Nodup
  · by_cases hc : cols.Nodup
    · by_cases hcw : ∃ c, c ∈ cols ∧ w ≤ c
      · obtain ⟨c, hc1, hc2⟩ := hcw
        refine Dt_zeroCol c _ cols (by simp [h1, h3]) hc1 fun r hr => ?_
        simp only [List.mem_map] at hr
        obtain ⟨i, _, rfl⟩ := hr
        exact hw i c hc2
      · obtain ⟨at_, p1, s1⟩ := sorted_of idx
        obtain ⟨cs, p2, s2⟩ := sorted_of cols
        obtain ⟨s, _, hs⟩ := Dt_perm (p1.map fun i => A i)
        obtain ⟨t, _, ht⟩ := Dt_perm (p2.map fun c => fun i => A i c)
        have l1 := p1.length_eq
        have l2 := p2.length_eq
        rw [hs, Dt_turn A cols at_ (by omega), ht, ← Dt_turn A cs at_ (by omega), h at_ cs (by omega) (by omega) (rise_of s1 (p1.nodup_iff.1 hd)) (rise_of s2 (p2.nodup_iff.1 hc)) (fun i hm => hi i (p1.mem_iff.2 hm)) (fun c hm => by
          have : c ∈ cols := p2.mem_iff.2 hm
          exact Nat.lt_of_not_le fun e => hcw ⟨c, this, e⟩)]
        simp
    · rw [Dt_turn A cols idx (by omega)]
      exact Dt_dup hc (fun c i => A i c) idx
  · exact Dt_dup hd A cols
end Go.Proofs.Ytcdkgeeookcoeaa
