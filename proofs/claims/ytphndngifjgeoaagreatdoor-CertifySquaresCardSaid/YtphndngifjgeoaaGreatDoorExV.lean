/- Several texts as one: DtA, DtB, DtC, ExA, ExB, ExC, ExD, ExE, ExF, ExG, ExH, ExI, ExJ, ExK. -/
import Derived.Orders
import Derived.Test.YtphndngifjgeoaaGreatDoorCtV
import Derived.Test.YtphndngifjgeoaaGreatDoorBiA
import Derived.Test.YtphndngifjgeoaaGreatDoorBvR
/-! DtA: Determinants, in plain Lean: expansion by the first row; rows and columns that change places; linearity; the expansions by the last row and by the first column; rows as columns. -/
set_option linter.unusedVariables false
set_option linter.unusedSimpArgs false
namespace Go.Proofs.YtphndngifjgeoaaGreatDoor

/-- The signed sum over all ways to take one out of a list. -/
def Sg {α : Type} : (α → List α → Int) → List α → Int
  | _, [] => 0
  | f, c :: post => f c post - Sg (fun c' rest => f c' (c :: rest)) post
theorem Sg_congr {α : Type} : ∀ (l : List α) {f g : α → List α → Int}, (∀ c rest, c ∈ l → (c :: rest).Perm l → f c rest = g c rest) → Sg f l = Sg g l
  | [], f, g, h => rfl
  | c :: post, f, g, h => by
    unfold Sg
    rw [h c post (by simp) (List.Perm.refl _), Sg_congr post fun c' rest hc hp => h c' (c :: rest) (by simp [hc]) ((List.Perm.swap c c' rest).trans (hp.cons c))]
theorem Sg_ext {α : Type} (l : List α) {f g : α → List α → Int} (h : ∀ c rest, f c rest = g c rest) : Sg f l = Sg g l := Sg_congr l fun c rest _ _ => h c rest
theorem Sg_zero {α : Type} : ∀ (l : List α), Sg (fun (_ : α) _ => 0) l = 0
  | [] => rfl
  | c :: post => by unfold Sg; rw [Sg_zero post]; rfl
theorem Sg_add {α : Type} : ∀ (l : List α) (f g : α → List α → Int), Sg (fun c r => f c r + g c r) l = Sg f l + Sg g l
  | [], f, g => rfl
  | c :: post, f, g => by simp only [Sg]; rw [Sg_add post (fun c' r => f c' (c :: r)) (fun c' r => g c' (c :: r))]; omega
theorem Sg_mul {α : Type} (x : Int) : ∀ (l : List α) (f : α → List α → Int), Sg (fun c r => x * f c r) l = x * Sg f l
  | [], f => by simp [Sg]
  | c :: post, f => by simp only [Sg]; rw [Sg_mul x post (fun c' r => f c' (c :: r)), Int.mul_sub]
theorem Sg_neg {α : Type} (l : List α) (f : α → List α → Int) : Sg (fun c r => - f c r) l = - Sg f l := by
  have := Sg_mul (-1) l f
  rw [Sg_ext l (g := fun c r => -1 * f c r) (fun c r => by omega), this]; omega
theorem Sg_sub {α : Type} (l : List α) (f g : α → List α → Int) : Sg (fun c r => f c r - g c r) l = Sg f l - Sg g l := by
  rw [Sg_ext l (g := fun c r => f c r + - g c r) (fun c r => by omega), Sg_add, Sg_neg]; omega
/-- Two taken out, one behind the other: the other way round it is the other sign. -/
theorem Sg_swap {α : Type} : ∀ (l : List α) (g : α → α → List α → Int), Sg (fun c r => Sg (fun c' r' => g c c' r') r) l = - Sg (fun c r => Sg (fun c' r' => g c' c r') r) l
  | [], g => rfl
  | a :: rest, g => by
    have ih := Sg_swap rest (fun c c' r => g c c' (a :: r))
    have e1 : Sg (fun c r => Sg (fun c' r' => g c c' r') r) (a :: rest) = Sg (g a) rest - (Sg (fun c => g c a) rest - Sg (fun c r => Sg (fun c' r' => g c c' (a :: r')) r) rest) := by
      simp only [Sg, Sg_sub]
    have e2 : Sg (fun c r => Sg (fun c' r' => g c' c r') r) (a :: rest) = Sg (fun c => g c a) rest - (Sg (g a) rest - Sg (fun c r => Sg (fun c' r' => g c' c (a :: r')) r) rest) := by
      simp only [Sg, Sg_sub]
    rw [e1, e2, ih]
    omega
theorem Sg_swapLists {α β : Type} : ∀ (l : List α) (m : List β) (g : α → List α → β → List β → Int), Sg (fun c r => Sg (fun c' r' => g c r c' r') m) l = Sg (fun c' r' => Sg (fun c r => g c r c' r') l) m
  | [], m, g => by simp [Sg, Sg_zero]
  | a :: l, m, g => by
    simp only [Sg]
    rw [Sg_swapLists l m (fun c r c' r' => g c (a :: r) c' r'), Sg_sub]

/-- The determinant of rows at columns, by the first row. -/
def Dt : List (Nat → Int) → List Nat → Int
  | [], _ => 1
  | r :: rs, cols => Sg (fun c rest => r c * Dt rs rest) cols
@[simp] theorem Dt_nil (cols : List Nat) : Dt [] cols = 1 := rfl
theorem Dt_cons (r : Nat → Int) (rs : List (Nat → Int)) (cols : List Nat) : Dt (r :: rs) cols = Sg (fun c rest => r c * Dt rs rest) cols := rfl

theorem Dt_swap2 (a b : Nat → Int) (rs : List (Nat → Int)) (cols : List Nat) : Dt (a :: b :: rs) cols = - Dt (b :: a :: rs) cols := by
  have e : ∀ a b : Nat → Int, Dt (a :: b :: rs) cols = Sg (fun c r => Sg (fun c' r' => a c * b c' * Dt rs r') r) cols := fun a b => by
    rw [Dt_cons]
    refine Sg_ext _ fun c rest => ?_
    rw [Dt_cons, ← Sg_mul]
    exact Sg_ext _ fun c' r' => by rw [Int.mul_assoc]
  rw [e a b, Sg_swap, e b a]
  congr 1
  refine Sg_ext _ fun c r => Sg_ext _ fun c' r' => ?_
  rw [Int.mul_comm (a c') (b c)]

theorem Dt_congr_tail (pre : List (Nat → Int)) {x y : List (Nat → Int)} {k : Int} (h : ∀ cols, Dt x cols = k * Dt y cols) : ∀ cols, Dt (pre ++ x) cols = k * Dt (pre ++ y) cols := by
  induction pre with
  | nil => exact h
  | cons r pre ih =>
    intro cols
    simp only [List.cons_append, Dt_cons]
    rw [← Sg_mul]
    exact Sg_ext _ fun c rest => by rw [ih, ← Int.mul_assoc, ← Int.mul_assoc, Int.mul_comm k]
theorem Dt_swapAt (pre : List (Nat → Int)) (a b : Nat → Int) (post : List (Nat → Int)) (cols : List Nat) : Dt (pre ++ a :: b :: post) cols = - Dt (pre ++ b :: a :: post) cols := by
  have := Dt_congr_tail pre (x := a :: b :: post) (y := b :: a :: post) (k := -1) (fun cols => by rw [Dt_swap2]; omega) cols
  rw [this]; omega

def sgn (n : Nat) : Int := if n % 2 = 0 then 1 else -1
theorem sgn_zero : sgn 0 = 1 := rfl
theorem sgn_succ (n : Nat) : sgn (n + 1) = - sgn n := by
  unfold sgn
  by_cases h : n % 2 = 0
  · rw [if_neg (by omega), if_pos h]
  · rw [if_pos (by omega), if_neg h]; rfl
theorem sgn_mul (n m : Nat) : sgn n * sgn m = sgn (n + m) := by
  unfold sgn
  by_cases h : n % 2 = 0 <;> by_cases h' : m % 2 = 0 <;> simp [h, h'] <;> omega
theorem sgn_sq (n : Nat) : sgn n * sgn n = 1 := by rw [sgn_mul]; unfold sgn; rw [if_pos (by omega)]
theorem sgn_ne (n : Nat) : sgn n ≠ 0 := by unfold sgn; split <;> omega

/-- A row goes down behind others. -/
theorem Dt_move (pre : List (Nat → Int)) (x : Nat → Int) (post : List (Nat → Int)) (cols : List Nat) : ∀ mid : List (Nat → Int), Dt (pre ++ x :: (mid ++ post)) cols = sgn mid.length * Dt (pre ++ mid ++ x :: post) cols := by
  intro mid
  induction mid generalizing pre with
  | nil => simp [sgn_zero]
  | cons m mid ih =>
    rw [List.cons_append, Dt_swapAt]
    have := ih (pre ++ [m])
    simp only [List.append_assoc, List.singleton_append] at this
    rw [this, List.length_cons, sgn_succ]
    simp only [List.append_assoc, List.cons_append, List.singleton_append]
    rw [Int.neg_mul]
/-- Two rows change places. -/
theorem Dt_exchange (pre : List (Nat → Int)) (a : Nat → Int) (mid : List (Nat → Int)) (b : Nat → Int) (post : List (Nat → Int)) (cols : List Nat) : Dt (pre ++ a :: (mid ++ b :: post)) cols = - Dt (pre ++ b :: (mid ++ a :: post)) cols := by
  have h1 := Dt_move pre a (b :: post) cols mid
  have h2 := Dt_move pre b (a :: post) cols mid
  have h3 := Dt_swapAt (pre ++ mid) a b post cols
  rw [h1, h3, h2, Int.mul_neg]
/-- Two equal rows. -/
theorem Dt_same (pre : List (Nat → Int)) (a : Nat → Int) (mid post : List (Nat → Int)) (cols : List Nat) : Dt (pre ++ a :: (mid ++ a :: post)) cols = 0 := by
  have := Dt_exchange pre a mid a post cols
  omega
/-- The expansion by the last row. -/
theorem Dt_last (r : Nat → Int) : ∀ (rs : List (Nat → Int)) (cols : List Nat), Dt (rs ++ [r]) cols = sgn rs.length * Sg (fun c rest => r c * Dt rs rest) cols
  | [], cols => by rw [List.nil_append, Dt_cons]; simp [sgn_zero]
  | r0 :: rs, cols => by
    have := Dt_move [] r [] cols (r0 :: rs)
    simp only [List.nil_append, List.append_nil] at this
    rw [Dt_cons] at this
    rw [this, ← Int.mul_assoc, sgn_sq, Int.one_mul]
/-- Linear in each row. -/
theorem Dt_linear (pre : List (Nat → Int)) (x : Int) (r u : Nat → Int) (post : List (Nat → Int)) : ∀ cols, Dt (pre ++ (fun c => x * r c + u c) :: post) cols = x * Dt (pre ++ r :: post) cols + Dt (pre ++ u :: post) cols := by
  induction pre with
  | nil =>
    intro cols
    simp only [List.nil_append, Dt_cons]
    rw [← Sg_mul, ← Sg_add]
    exact Sg_ext _ fun c rest => by rw [Int.add_mul, Int.mul_assoc]
  | cons q pre ih =>
    intro cols
    simp only [List.cons_append, Dt_cons]
    rw [← Sg_mul, ← Sg_add]
    exact Sg_ext _ fun c rest => by rw [ih, Int.mul_add, ← Int.mul_assoc, ← Int.mul_assoc, Int.mul_comm (q c) x]
theorem Dt_zeroRow (pre post : List (Nat → Int)) (cols : List Nat) : Dt (pre ++ (fun _ => 0) :: post) cols = 0 := by
  have := Dt_linear pre 1 (fun _ => 0) (fun _ => 0) post cols
  simp only [Int.mul_zero, Int.add_zero, Int.one_mul] at this
  omega
theorem Dt_congr_cols : ∀ (rs rs' : List (Nat → Int)) (cols : List Nat), rs.length = rs'.length → (∀ (i : Nat) (r r' : Nat → Int) (c : Nat), rs[i]? = some r → rs'[i]? = some r' → c ∈ cols → r c = r' c) → Dt rs cols = Dt rs' cols
  | [], [], cols, _, _ => rfl
  | r :: rs, [], cols, h, _ => by simp at h
  | [], r :: rs, cols, h, _ => by simp at h
  | r :: rs, r' :: rs', cols, h, hc => by
    rw [Dt_cons, Dt_cons]
    refine Sg_congr _ fun c rest hm hp => ?_
    rw [hc 0 r r' c rfl rfl hm, Dt_congr_cols rs rs' rest (by simpa using h) fun i a b k h1 h2 hk => hc (i + 1) a b k (by simpa using h1) (by simpa using h2) (hp.mem_iff.1 (by simp [hk]))]
/-- The expansion by the first column. -/
theorem Dt_column (c : Nat) : ∀ (rs : List (Nat → Int)) (cs : List Nat), rs.length = cs.length + 1 → Dt rs (c :: cs) = Sg (fun r rest => r c * Dt rest cs) rs
  | [], cs, h => by simp at h
  | r :: rs, cs, h => by
    have h' : rs.length = cs.length := by simpa using h
    have e : Sg (fun c' rest => r c' * Dt rs (c :: rest)) cs = Sg (fun r' rs' => r' c * Dt (r :: rs') cs) rs := by
      rw [Sg_congr cs (g := fun c' rest => Sg (fun r' rs' => r c' * (r' c * Dt rs' rest)) rs) (fun c' rest hm hp => by
        rw [Dt_column c rs rest (by have := hp.length_eq; simp at this; omega), ← Sg_mul])]
      rw [Sg_swapLists]
      refine Sg_ext _ fun r' rs' => ?_
      rw [Dt_cons, ← Sg_mul]
      exact Sg_ext _ fun c' rest => by rw [← Int.mul_assoc, ← Int.mul_assoc, Int.mul_comm (r c')]
    rw [Dt_cons, Sg, e, Sg]
theorem Sg_map {α β : Type} (h : α → β) : ∀ (l : List α) (f : β → List β → Int), Sg f (l.map h) = Sg (fun a r => f (h a) (r.map h)) l
  | [], f => rfl
  | a :: l, f => by
    simp only [List.map_cons, Sg]
    rw [Sg_map h l]
/-- Rows as columns. -/
theorem Dt_turn (A : Nat → Nat → Int) : ∀ (cols idx : List Nat), idx.length = cols.length → Dt (idx.map fun i => A i) cols = Dt (cols.map fun c => fun i => A i c) idx
  | [], idx, h => by
    have : idx = [] := List.eq_nil_of_length_eq_zero h
    subst this; rfl
  | c :: cs, idx, h => by
    rw [Dt_column c _ cs (by simpa using h), Sg_map, List.map_cons, Dt_cons]
    refine Sg_congr _ fun i rest hm hp => ?_
    rw [Dt_turn A cs rest (by have := hp.length_eq; simp at this h; omega)]

/-- Rows in another order: another sign at most. -/
theorem Dt_perm {x y : List (Nat → Int)} (h : x.Perm y) : ∃ s : Int, s ≠ 0 ∧ ∀ cols, Dt x cols = s * Dt y cols := by
  induction h with
  | nil => exact ⟨1, by omega, fun cols => by simp⟩
  | cons r _ ih =>
    obtain ⟨s, h0, h⟩ := ih
    exact ⟨s, h0, fun cols => by
      rw [Dt_cons, Dt_cons, ← Sg_mul]
      exact Sg_ext _ fun c rest => by rw [h, ← Int.mul_assoc, ← Int.mul_assoc, Int.mul_comm s]⟩
  | swap a b l => exact ⟨-1, by omega, fun cols => by rw [Dt_swap2]; omega⟩
  | trans _ _ ih1 ih2 =>
    obtain ⟨s, h0, h⟩ := ih1
    obtain ⟨t, k0, k⟩ := ih2
    exact ⟨s * t, Int.mul_ne_zero h0 k0, fun cols => by rw [h, k, Int.mul_assoc]⟩
theorem Dt_zeroCol (c : Nat) : ∀ (rs : List (Nat → Int)) (cols : List Nat), rs.length = cols.length → c ∈ cols → (∀ r, r ∈ rs → r c = 0) → Dt rs cols = 0
  | [], cols, h, hc, _ => by
    have : cols = [] := List.eq_nil_of_length_eq_zero (by simpa using h.symm)
    subst this; simp at hc
  | r :: rs, cols, h, hc, hz => by
    rw [Dt_cons, ← Sg_zero cols]
    refine Sg_congr _ fun c' rest hm hp => ?_
    have hl := hp.length_eq
    rcases List.mem_cons.1 (hp.mem_iff.2 hc) with e | e
    · rw [← e, hz r (by simp), Int.zero_mul]
    · rw [Dt_zeroCol c rs rest (by simp at hl h; omega) e fun r hr => hz r (by simp [hr]), Int.mul_zero]

/-! ### ranks -/
inductive Span (A : List (Nat → Int)) : (Nat → Int) → Prop
  | zero : Span A (fun _ => 0)
  | step (x : Int) (r u : Nat → Int) : r ∈ A → Span A u → Span A (fun c => x * r c + u c)
theorem Span.mem {A : List (Nat → Int)} {r : Nat → Int} (h : r ∈ A) : Span A r := by
  have := Span.step 1 r _ h Span.zero
  simpa using this
theorem Span.mul {A : List (Nat → Int)} {r : Nat → Int} (y : Int) (h : Span A r) : Span A (fun c => y * r c) := by
  induction h with
  | zero => simpa using Span.zero
  | step x r u hr _ ih =>
    have := Span.step (y * x) r _ hr ih
    have e : (fun c => y * x * r c + y * u c) = fun c => y * (x * r c + u c) := funext fun c => by rw [Int.mul_add, Int.mul_assoc]
    rwa [e] at this
theorem Span.add {A : List (Nat → Int)} {r q : Nat → Int} (h : Span A r) (h' : Span A q) : Span A (fun c => r c + q c) := by
  induction h with
  | zero => simpa using h'
  | step x r u hr _ ih =>
    have := Span.step x r _ hr ih
    have e : (fun c => x * r c + (u c + q c)) = fun c => x * r c + u c + q c := funext fun c => by omega
    rwa [e] at this

/-- All minors of k rows are 0. -/
def Vm (k : Nat) (A : List (Nat → Int)) : Prop := ∀ rs cols, rs.length = k → (∀ r, r ∈ rs → r ∈ A) → cols.length = k → Dt rs cols = 0
theorem Vm_succ {k : Nat} {A : List (Nat → Int)} (h : Vm k A) : Vm (k + 1) A := by
  intro rs cols h1 h2 h3
  match rs, h1 with
  | r :: rs, h1 =>
    rw [Dt_cons, ← Sg_zero cols]
    refine Sg_congr _ fun c rest hm hp => ?_
    have hl := hp.length_eq
    rw [h rs rest (by simpa using h1) (fun r hr => h2 r (by simp [hr])) (by simp at hl; omega), Int.mul_zero]
theorem Vm_le {k m : Nat} {A : List (Nat → Int)} (hkm : k ≤ m) (h : Vm k A) : Vm m A := by
  induction hkm with
  | refl => exact h
  | step _ ih => exact Vm_succ ih
theorem Vm_span {k : Nat} {A : List (Nat → Int)} (h : Vm k A) : ∀ (n : Nat) (pre post : List (Nat → Int)) (cols : List Nat), pre.length = n → pre.length + post.length = k → (∀ r, r ∈ pre → Span A r) → (∀ r, r ∈ post → r ∈ A) → cols.length = k → Dt (pre ++ post) cols = 0
  | 0, pre, post, cols, hn, hk, h1, h2, h3 => by
    have : pre = [] := List.eq_nil_of_length_eq_zero hn
    subst this
    exact h post cols (by simpa using hk) h2 h3
  | n + 1, pre, post, cols, hn, hk, h1, h2, h3 => by
    have hne : pre ≠ [] := fun e => by subst e; simp at hn
    obtain ⟨pre', v, rfl⟩ : ∃ p v, pre = p ++ [v] := ⟨pre.dropLast, pre.getLast hne, (List.dropLast_concat_getLast hne).symm⟩
    have hv : Span A v := h1 v (by simp)
    simp only [List.append_assoc, List.singleton_append, List.length_append, List.length_singleton] at hk hn ⊢
    have h1' : ∀ r, r ∈ pre' → Span A r := fun r hr => h1 r (by simp [hr])
    clear h1 hne
    induction hv with
    | zero => exact Dt_zeroRow _ _ _
    | step x r u hr _ ih =>
      rw [Dt_linear, ih, Vm_span h n pre' (r :: post) cols (by omega) (by simp; omega) h1' (fun q hq => by rcases List.mem_cons.1 hq with e | e; exact e ▸ hr; exact h2 q e) h3]
      simp
/-- Rows that, each taken often enough, are made of others: what is 0 of the others is 0 of them. -/
theorem Vm_made {k : Nat} {A B : List (Nat → Int)} (h : Vm k A) (hB : ∀ r, r ∈ B → ∃ p : Int, p ≠ 0 ∧ Span A (fun c => p * r c)) : Vm k B := by
  have key : ∀ (rs pre : List (Nat → Int)) (cols : List Nat), pre.length + rs.length = k → (∀ r, r ∈ pre → Span A r) → (∀ r, r ∈ rs → r ∈ B) → cols.length = k → Dt (pre ++ rs) cols = 0 := by
    intro rs
    induction rs with
    | nil => intro pre cols hk h1 _ h3; exact Vm_span h pre.length pre [] cols rfl hk h1 (by simp) h3
    | cons r rs ih =>
      intro pre cols hk h1 h2 h3
      obtain ⟨p, hp, hs⟩ := hB r (h2 r (by simp))
      have h4 := ih (pre ++ [fun c => p * r c]) cols (by simp at hk ⊢; omega) (fun q hq => by rcases List.mem_append.1 hq with e | e; exact h1 q e; simp at e; exact e ▸ hs) (fun q hq => h2 q (by simp [hq])) h3
      have h5 := Dt_linear pre p r (fun _ => 0) rs cols
      rw [Dt_zeroRow, Int.add_zero] at h5
      have e : (fun c => p * r c + 0) = fun c => p * r c := funext fun c => by omega
      rw [e] at h5
      simp only [List.append_assoc, List.singleton_append] at h4
      rw [h4] at h5
      rcases Int.mul_eq_zero.1 h5.symm with e | e
      · exact absurd e hp
      · exact e
  intro rs cols h1 h2 h3
  exact key rs [] cols (by simpa using h1) (by simp) h2 h3
/-- The rank: the greatest number of rows of a minor that is not 0. -/
def IsRank (A : List (Nat → Int)) (r : Nat) : Prop := ¬ Vm r A ∧ Vm (r + 1) A
theorem IsRank.unique {A : List (Nat → Int)} {r r' : Nat} (h : IsRank A r) (h' : IsRank A r') : r = r' := by
  rcases Nat.lt_trichotomy r r' with e | e | e
  · exact absurd (Vm_le e h.2) h'.1
  · exact e
  · exact absurd (Vm_le e h'.2) h.1
theorem IsRank.made {A B : List (Nat → Int)} {r : Nat} (h : IsRank A r) (hB : ∀ r, r ∈ B → ∃ p : Int, p ≠ 0 ∧ Span A (fun c => p * r c)) (hA : ∀ r, r ∈ A → ∃ p : Int, p ≠ 0 ∧ Span B (fun c => p * r c)) : IsRank B r :=
  ⟨fun hv => h.1 (Vm_made hv hA), Vm_made h.2 hB⟩

/-! ### minors of rising places -/
def rise (l : List Nat) : Prop := l.Pairwise (· < ·)
/-- All minors of k rows, k columns at rising places are 0. -/
def VS (k : Nat) (A : Nat → Nat → Int) (n w : Nat) : Prop := ∀ at_ cols : List Nat, at_.length = k → cols.length = k → rise at_ → rise cols → (∀ i, i ∈ at_ → i < n) → (∀ c, c ∈ cols → c < w) → Dt (at_.map fun i => A i) cols = 0
theorem sorted_of (l : List Nat) : ∃ m, l.Perm m ∧ m.Pairwise (· ≤ ·) := by
  refine ⟨l.mergeSort, (List.mergeSort_perm l _).symm, ?_⟩
  have := List.pairwise_mergeSort (le := fun a b : Nat => decide (a ≤ b)) (fun a b c h1 h2 => by simp at *; omega) (fun a b => by simp; omega) l
  exact this.imp fun h => by simpa using h
theorem rise_of {m : List Nat} (h : m.Pairwise (· ≤ ·)) (hn : m.Nodup) : rise m := by
  unfold rise
  exact (h.and hn).imp fun ⟨a, b⟩ => Nat.lt_of_le_of_ne a b
theorem Dt_dup {l : List Nat} (h : ¬ l.Nodup) (A : Nat → Nat → Int) (cols : List Nat) : Dt (l.map fun i => A i) cols = 0 := by
  induction l generalizing cols with
  | nil => simp at h
  | cons a l ih =>
    by_cases ha : a ∈ l
    · obtain ⟨s, t, rfl⟩ := List.append_of_mem ha
      simp only [List.map_cons, List.map_append]
      exact Dt_same [] (A a) (s.map fun i => A i) (t.map fun i => A i) cols
    · have hl : ¬ l.Nodup := fun e => h (List.nodup_cons.2 ⟨ha, e⟩)
      rw [List.map_cons, Dt_cons, ← Sg_zero cols]
      exact Sg_ext _ fun c rest => by rw [ih hl, Int.mul_zero]
theorem VS_V {k : Nat} {A : Nat → Nat → Int} {n w : Nat} (hw : ∀ i c, w ≤ c → A i c = 0) (h : VS k A n w) : Vm k ((List.range n).map fun i => A i) := by
  intro rs cols h1 h2 h3
  have hidx : ∃ idx : List Nat, rs = idx.map (fun i => A i) ∧ ∀ i, i ∈ idx → i < n := by
    clear h1
    induction rs with
    | nil => exact ⟨[], rfl, by simp⟩
    | cons r rs ih =>
      obtain ⟨idx, e, hi⟩ := ih fun r hr => h2 r (by simp [hr])
      have := h2 r (by simp)
      simp only [List.mem_map, List.mem_range] at this
      obtain ⟨i, hin, rfl⟩ := this
      exact ⟨i :: idx, by simp [e], fun j hj => by rcases List.mem_cons.1 hj with e | e; exact e ▸ hin; exact hi j e⟩
  obtain ⟨idx, rfl, hi⟩ := hidx
  rw [List.length_map] at h1
  by_cases hd : idx.Nodup
  · by_cases hc : cols.Nodup
    · by_cases hcw : ∃ c, c ∈ cols ∧ w ≤ c
      · obtain ⟨c, hc1, hc2⟩ := hcw
        refine Dt_zeroCol c _ cols (by simp [h1, h3]) hc1 fun r hr => ?_
        simp only [List.mem_map] at hr
        obtain ⟨i, _, rfl⟩ := hr
        exact hw i c hc2
      · obtain ⟨at_, p1, s1⟩ := sorted_of idx
        obtain ⟨cs, p2, s2⟩ := sorted_of cols
        obtain ⟨s, _, hs⟩ := Dt_perm (p1.map fun i => A i)
        obtain ⟨t, _, ht⟩ := Dt_perm (p2.map fun c => fun i => A i c)
        have l1 := p1.length_eq
        have l2 := p2.length_eq
        rw [hs, Dt_turn A cols at_ (by omega), ht, ← Dt_turn A cs at_ (by omega), h at_ cs (by omega) (by omega) (rise_of s1 (p1.nodup_iff.1 hd)) (rise_of s2 (p2.nodup_iff.1 hc)) (fun i hm => hi i (p1.mem_iff.2 hm)) (fun c hm => by
          have : c ∈ cols := p2.mem_iff.2 hm
          exact Nat.lt_of_not_le fun e => hcw ⟨c, this, e⟩)]
        simp
    · rw [Dt_turn A cols idx (by omega)]
      exact Dt_dup hc (fun c i => A i c) idx
  · exact Dt_dup hd A cols
end Go.Proofs.YtphndngifjgeoaaGreatDoor

/-! DtB: Ranks by elimination, in plain Lean: rows that are taken off others crosswise leave the rank; stairs show it. Sets of places by bits. -/
set_option linter.unusedVariables false
set_option linter.unusedSimpArgs false
namespace Go.Proofs.YtphndngifjgeoaaGreatDoor

abbrev rowsOf (n : Nat) (A : Nat → Nat → Int) : List (Nat → Int) := (List.range n).map fun i => A i
theorem mem_rowsOf {n : Nat} {A : Nat → Nat → Int} {r : Nat → Int} : r ∈ rowsOf n A ↔ ∃ i, i < n ∧ A i = r := by simp [rowsOf]

def swapF (A : Nat → Nat → Int) (d p : Nat) : Nat → Nat → Int := fun i => if i = d then A p else if i = p then A d else A i
def elimF (A : Nat → Nat → Int) (d c : Nat) : Nat → Nat → Int := fun i => if d < i ∧ A i c ≠ 0 then fun k => A i k * A d c - A d k * A i c else A i

theorem one_span {A : List (Nat → Int)} {r : Nat → Int} (h : r ∈ A) : ∃ p : Int, p ≠ 0 ∧ Span A (fun c => p * r c) := ⟨1, by omega, by simpa using Span.mem h⟩

theorem rank_swap {A : Nat → Nat → Int} {n d p r : Nat} (hd : d < n) (hp : p < n) (h : IsRank (rowsOf n (swapF A d p)) r) : IsRank (rowsOf n A) r := by
  refine h.made (fun q hq => ?_) (fun q hq => ?_)
  · obtain ⟨i, hi, rfl⟩ := mem_rowsOf.1 hq
    refine one_span (mem_rowsOf.2 ?_)
    by_cases e : i = d
    · by_cases e2 : p = d
      · exact ⟨d, hd, by simp [swapF, e, e2]⟩
      · exact ⟨p, hp, by simp [swapF, e, e2]⟩
    · by_cases e2 : i = p
      · exact ⟨d, hd, by simp [swapF, e2]⟩
      · exact ⟨i, hi, by simp [swapF, e, e2]⟩
  · obtain ⟨i, hi, rfl⟩ := mem_rowsOf.1 hq
    refine one_span (mem_rowsOf.2 ?_)
    simp only [swapF]
    split
    · exact ⟨p, hp, rfl⟩
    · split
      · exact ⟨d, hd, rfl⟩
      · exact ⟨i, hi, rfl⟩
theorem rank_elim {A : Nat → Nat → Int} {n d c r : Nat} (hd : d < n) (hA : A d c ≠ 0) (h : IsRank (rowsOf n (elimF A d c)) r) : IsRank (rowsOf n A) r := by
  have hdd : elimF A d c d = A d := by simp [elimF]
  refine h.made (fun q hq => ?_) (fun q hq => ?_)
  · obtain ⟨i, hi, rfl⟩ := mem_rowsOf.1 hq
    by_cases e : d < i ∧ A i c ≠ 0
    · refine ⟨A d c, hA, ?_⟩
      have h1 : Span (rowsOf n (elimF A d c)) (elimF A d c i) := Span.mem (mem_rowsOf.2 ⟨i, hi, rfl⟩)
      have h2 : Span (rowsOf n (elimF A d c)) (elimF A d c d) := Span.mem (mem_rowsOf.2 ⟨d, hd, rfl⟩)
      have h3 := h1.add (h2.mul (A i c))
      rw [hdd] at h3
      have e2 : elimF A d c i = fun k => A i k * A d c - A d k * A i c := by simp [elimF, e]
      rw [e2] at h3
      have e3 : (fun k => A i k * A d c - A d k * A i c + A i c * A d k) = fun k => A d c * A i k := funext fun k => by
        rw [Int.mul_comm (A i c), Int.mul_comm (A d c)]; omega
      rwa [e3] at h3
    · have e2 : elimF A d c i = A i := by simp only [elimF]; rw [if_neg e]
      exact one_span (mem_rowsOf.2 ⟨i, hi, e2⟩)
  · obtain ⟨i, hi, rfl⟩ := mem_rowsOf.1 hq
    by_cases e : d < i ∧ A i c ≠ 0
    · have e2 : elimF A d c i = fun k => A i k * A d c - A d k * A i c := by simp [elimF, e]
      rw [e2]
      have h1 : Span (rowsOf n A) (A i) := Span.mem (mem_rowsOf.2 ⟨i, hi, rfl⟩)
      have h2 : Span (rowsOf n A) (A d) := Span.mem (mem_rowsOf.2 ⟨d, hd, rfl⟩)
      have h3 := (h1.mul (A d c)).add (h2.mul (-(A i c)))
      refine ⟨1, by omega, ?_⟩
      have e3 : (fun k => A d c * A i k + -(A i c) * A d k) = fun k => 1 * (A i k * A d c - A d k * A i c) := funext fun k => by
        rw [Int.mul_comm (A i k), Int.mul_comm (A d k), Int.neg_mul]; omega
      rwa [e3] at h3
    · have e2 : elimF A d c i = A i := by simp only [elimF]; rw [if_neg e]
      rw [e2]
      exact one_span (mem_rowsOf.2 ⟨i, hi, rfl⟩)

/-- A stair of pivots. -/
theorem Dt_tri : ∀ (rs : List (Nat → Int)) (cs : List Nat), rs.length = cs.length → (∀ (j : Nat) (r : Nat → Int) (c : Nat), rs[j]? = some r → cs[j]? = some c → r c ≠ 0) → (∀ (i j : Nat) (r : Nat → Int) (c : Nat), j < i → rs[i]? = some r → cs[j]? = some c → r c = 0) → Dt rs cs ≠ 0
  | [], cs, h, _, _ => by rw [Dt_nil]; omega
  | r :: rs, [], h, _, _ => by simp at h
  | r :: rs, c :: cs, h, h1, h2 => by
    have hl : rs.length = cs.length := by simpa using h
    have hz : Sg (fun c' rest => r c' * Dt rs (c :: rest)) cs = 0 := by
      rw [← Sg_zero cs]
      refine Sg_congr _ fun c' rest hm hp => ?_
      rw [Dt_zeroCol c rs (c :: rest) (by have := hp.length_eq; simp at this ⊢; omega) (by simp) fun q hq => by
        obtain ⟨i, hi⟩ := List.mem_iff_getElem?.1 hq
        exact h2 (i + 1) 0 q c (by omega) (by simpa using hi) (by simp), Int.mul_zero]
    rw [Dt_cons]
    simp only [Sg]
    rw [hz, Int.sub_zero]
    exact Int.mul_ne_zero (h1 0 r c (by simp) (by simp)) (Dt_tri rs cs hl (fun j r c a b => h1 (j + 1) r c (by simpa using a) (by simpa using b)) (fun i j r c hji a b => h2 (i + 1) (j + 1) r c (by omega) (by simpa using a) (by simpa using b)))

/-- Stairs: `d` pivots in the columns below c. -/
structure Stairs (A : Nat → Nat → Int) (n d c : Nat) : Prop where
  dn : d ≤ n
  piv : ∃ pc : Nat → Nat, ∀ j, j < d → pc j < c ∧ A j (pc j) ≠ 0 ∧ ∀ i, j < i → i < n → A i (pc j) = 0
  low : ∀ i, d ≤ i → i < n → ∀ k, k < c → A i k = 0
theorem Stairs.zero (A : Nat → Nat → Int) (n : Nat) : Stairs A n 0 0 := ⟨Nat.zero_le _, ⟨fun _ => 0, fun j h => by omega⟩, fun i _ _ k h => by omega⟩
theorem Stairs.skip {A : Nat → Nat → Int} {n d c : Nat} (h : Stairs A n d c) (hc : ∀ i, d ≤ i → i < n → A i c = 0) : Stairs A n d (c + 1) := by
  obtain ⟨h1, ⟨pc, h2⟩, h3⟩ := h
  refine ⟨h1, ⟨pc, fun j hj => ⟨Nat.lt_succ_of_lt (h2 j hj).1, (h2 j hj).2⟩⟩, fun i hi hn k hk => ?_⟩
  by_cases e : k = c
  · rw [e]; exact hc i hi hn
  · exact h3 i hi hn k (by omega)
theorem Stairs.step {A : Nat → Nat → Int} {n d c p : Nat} (h : Stairs A n d c) (hp : d ≤ p ∧ p < n) (hA : A p c ≠ 0) : Stairs (elimF (swapF A d p) d c) n (d + 1) (c + 1) := by
  obtain ⟨h1, ⟨pc, h2⟩, h3⟩ := h
  obtain ⟨p1, p2⟩ := hp
  have sd : swapF A d p d = A p := by simp [swapF]
  -- the swapped rows keep the stairs
  have s2 : ∀ j, j < d → swapF A d p j = A j := fun j hj => by simp only [swapF]; rw [if_neg (by omega), if_neg (by omega)]
  have s3 : ∀ i, d ≤ i → i < n → ∃ i', d ≤ i' ∧ i' < n ∧ swapF A d p i = A i' := fun i hi hn => by
    simp only [swapF]
    split
    · exact ⟨p, p1, p2, rfl⟩
    · split
      · exact ⟨d, Nat.le_refl _, by omega, rfl⟩
      · exact ⟨i, hi, hn, rfl⟩
  generalize swapF A d p = B at sd s2 s3
  have b1 : ∀ i, d ≤ i → i < n → ∀ k, k < c → B i k = 0 := fun i hi hn k hk => by
    obtain ⟨i', a, b, e⟩ := s3 i hi hn; rw [e]; exact h3 i' a b k hk
  have b2 : ∀ j i, j < d → j < i → i < n → B i (pc j) = 0 := fun j i hj hji hn => by
    by_cases e : i < d
    · rw [s2 i e]; exact (h2 j hj).2.2 i hji hn
    · obtain ⟨i', a, b, e⟩ := s3 i (by omega) hn; rw [e]; exact (h2 j hj).2.2 i' (by omega) b
  have hBd : B d c ≠ 0 := by rw [sd]; exact hA
  have ed : ∀ i, ¬ d < i → elimF B d c i = B i := fun i hi => by simp only [elimF]; rw [if_neg (fun e => hi e.1)]
  refine ⟨by omega, ⟨fun j => if j < d then pc j else c, fun j hj => ?_⟩, fun i hi hn k hk => ?_⟩
  · by_cases e : j < d
    · simp only [e, if_true]
      refine ⟨Nat.lt_succ_of_lt (h2 j e).1, ?_, fun i hji hn => ?_⟩
      · rw [ed j (by omega), s2 j e]; exact (h2 j e).2.1
      · simp only [elimF]
        split
        · show B i (pc j) * B d c - B d (pc j) * B i c = 0
          rw [b2 j i e hji hn, b2 j d e e (by omega)]; simp
        · exact b2 j i e hji hn
    · have : j = d := by omega
      subst this
      simp only [Nat.lt_irrefl, if_false]
      refine ⟨Nat.lt_succ_self _, by rw [ed j (by omega)]; exact hBd, fun i hji hn => ?_⟩
      simp only [elimF]
      split
      · show B i c * B j c - B j c * B i c = 0
        rw [Int.mul_comm]; omega
      · rename_i e2
        exact Classical.byContradiction fun e3 => e2 ⟨hji, e3⟩
  · by_cases e : k = c
    · subst e
      simp only [elimF]
      split
      · show B i k * B d k - B d k * B i k = 0
        rw [Int.mul_comm]; omega
      · rename_i e2
        exact Classical.byContradiction fun e3 => e2 ⟨by omega, e3⟩
    · simp only [elimF]
      split
      · show B i k * B d c - B d k * B i c = 0
        rw [b1 i (by omega) hn k (by omega), b1 d (Nat.le_refl _) (by omega) k (by omega)]; simp
      · exact b1 i (by omega) hn k (by omega)
theorem idx_of {n : Nat} {A : Nat → Nat → Int} : ∀ {rs : List (Nat → Int)}, (∀ r, r ∈ rs → r ∈ rowsOf n A) → ∃ idx : List Nat, rs = idx.map (fun i => A i) ∧ ∀ i, i ∈ idx → i < n
  | [], _ => ⟨[], rfl, by simp⟩
  | r :: rs, h2 => by
    obtain ⟨idx, e, hi⟩ := idx_of (rs := rs) fun r hr => h2 r (by simp [hr])
    obtain ⟨i, hin, rfl⟩ := mem_rowsOf.1 (h2 r (by simp))
    exact ⟨i :: idx, by simp [e], fun j hj => by rcases List.mem_cons.1 hj with e | e; exact e ▸ hin; exact hi j e⟩
theorem nodup_lt {l : List Nat} {n : Nat} (h : l.Nodup) (hl : ∀ i, i ∈ l → i < n) : l.length ≤ n := by
  have := (List.nodup_range (n := n))
  have hs : l ⊆ List.range n := fun i hi => List.mem_range.2 (hl i hi)
  have := h.length_le_of_subset hs
  simpa using this
theorem Stairs.rank {A : Nat → Nat → Int} {n d w : Nat} (h : Stairs A n d w) (hw : ∀ i c, w ≤ c → A i c = 0) : IsRank (rowsOf n A) d := by
  obtain ⟨h1, ⟨pc, h2⟩, h3⟩ := h
  constructor
  · intro hv
    refine Dt_tri ((List.range d).map fun i => A i) ((List.range d).map pc) (by simp) ?_ ?_ (hv _ _ (by simp) (fun r hr => ?_) (by simp))
    · intro j r c hr hc
      simp only [List.getElem?_map, Option.map_eq_some_iff] at hr hc
      obtain ⟨i, hi, rfl⟩ := hr
      obtain ⟨i', hi', rfl⟩ := hc
      have e1 := List.getElem?_range (n := d) (i := j)
      rw [hi] at hi'; cases hi'
      have hlt := (List.getElem?_eq_some_iff.1 hi)
      obtain ⟨k1, k2⟩ := hlt
      simp at k1 k2
      subst k2
      exact (h2 j k1).2.1
    · intro i j r c hji hr hc
      simp only [List.getElem?_map, Option.map_eq_some_iff] at hr hc
      obtain ⟨i', hi, rfl⟩ := hr
      obtain ⟨j', hj, rfl⟩ := hc
      obtain ⟨k1, k2⟩ := List.getElem?_eq_some_iff.1 hi
      obtain ⟨k3, k4⟩ := List.getElem?_eq_some_iff.1 hj
      simp at k1 k2 k3 k4
      subst k2 k4
      exact (h2 j k3).2.2 i hji (by omega)
    · simp only [List.mem_map, List.mem_range] at hr
      obtain ⟨i, hi, rfl⟩ := hr
      exact mem_rowsOf.2 ⟨i, by omega, rfl⟩
  · intro rs cols h4 h5 h6
    obtain ⟨idx, rfl, hi⟩ := idx_of h5
    by_cases hz : ∃ i, i ∈ idx ∧ d ≤ i
    · obtain ⟨i, hm, hdi⟩ := hz
      have e : A i = fun _ => 0 := funext fun c => by
        by_cases hc : c < w
        · exact h3 i hdi (hi i hm) c hc
        · exact hw i c (by omega)
      obtain ⟨s, t, rfl⟩ := List.append_of_mem hm
      simp only [List.map_append, List.map_cons, e]
      exact Dt_zeroRow _ _ _
    · refine Dt_dup (fun hn => ?_) A cols
      have := nodup_lt hn (n := d) (fun i hm => Nat.lt_of_not_le fun e => hz ⟨i, hm, e⟩)
      simp at h4
      omega

/-! ### sets of places, by bits -/
def bl (n m : Nat) : List Nat := (List.range n).filter fun i => m.testBit i
theorem bl_succ (n m : Nat) : bl (n + 1) m = bl n m ++ (if m.testBit n then [n] else []) := by
  unfold bl
  rw [List.range_succ, List.filter_append]
  congr 1
  by_cases h : m.testBit n = true <;> simp [h]
theorem bl_lt {n m i : Nat} (h : i ∈ bl n m) : i < n ∧ m.testBit i = true := by simpa [bl] using h
theorem bl_rise (n m : Nat) : rise (bl n m) := List.Pairwise.filter _ (List.pairwise_lt_range)
theorem bl_congr {n m m' : Nat} (h : ∀ i, i < n → m.testBit i = m'.testBit i) : bl n m = bl n m' := by
  unfold bl
  refine List.filter_congr fun i hi => ?_
  rw [h i (by simpa using hi)]
theorem rise_bl : ∀ (n : Nat) (l : List Nat), rise l → (∀ i, i ∈ l → i < n) → ∃ m, m < 2 ^ n ∧ bl n m = l
  | 0, l, _, h => by
    have : l = [] := by cases l with | nil => rfl | cons a l => exact absurd (h a (by simp)) (by omega)
    exact ⟨0, by simp, by simp [bl, this]⟩
  | n + 1, l, hr, h => by
    by_cases hn : n ∈ l
    · have hne : l ≠ [] := fun e => by rw [e] at hn; simp at hn
      obtain ⟨l', x, rfl⟩ : ∃ p v, l = p ++ [v] := ⟨l.dropLast, l.getLast hne, (List.dropLast_concat_getLast hne).symm⟩
      have hp := List.pairwise_append.1 hr
      have hx : x = n := by
        rcases List.mem_append.1 hn with e | e
        · have := hp.2.2 n e x (by simp)
          have := h x (by simp)
          omega
        · simpa using Eq.symm (List.mem_singleton.1 e)
      subst hx
      obtain ⟨m, hm, e⟩ := rise_bl x l' hp.1 (fun i hi => hp.2.2 i hi x (by simp))
      refine ⟨2 ^ x + m, by rw [Nat.pow_succ]; omega, ?_⟩
      rw [bl_succ, if_pos (by rw [Nat.testBit_two_pow_add_eq, Nat.testBit_lt_two_pow hm]; rfl)]
      rw [bl_congr (m' := m) fun i hi => Nat.testBit_two_pow_add_gt hi m, e]
    · obtain ⟨m, hm, e⟩ := rise_bl n l hr (fun i hi => by
        have := h i hi
        by_cases e : i = n
        · rw [e] at hi; exact absurd hi hn
        · omega)
      refine ⟨m, by rw [Nat.pow_succ]; omega, ?_⟩
      rw [bl_succ, if_neg (by rw [Nat.testBit_lt_two_pow hm]; simp), List.append_nil, e]
end Go.Proofs.YtphndngifjgeoaaGreatDoor

/-! DtC: Determinants set by set of columns, ranks by minors, of rows turned into columns, of one row more: in plain Lean. -/
set_option linter.unusedVariables false
set_option linter.unusedSimpArgs false
namespace Go.Proofs.YtphndngifjgeoaaGreatDoor

/-! ### the places from m on -/
def bh (m n s : Nat) : List Nat := (List.range' m (n - m)).filter fun i => s.testBit i
theorem bh_nil (n s : Nat) : bh n n s = [] := by simp [bh]
theorem bh_zero (n s : Nat) : bh 0 n s = bl n s := by unfold bh bl; rw [Nat.sub_zero, List.range_eq_range']
theorem bl_none (s : Nat) : bl 0 s = [] := by simp [bl]
theorem bh_step {m n : Nat} (h : m < n) (s : Nat) : bh m n s = if s.testBit m then m :: bh (m + 1) n s else bh (m + 1) n s := by
  unfold bh
  rw [show n - m = (n - (m + 1)) + 1 by omega, List.range'_succ, List.filter_cons]
theorem bl_bh {m n : Nat} (h : m ≤ n) (s : Nat) : bl n s = bl m s ++ bh m n s := by
  unfold bl bh
  rw [← List.filter_append, List.range_eq_range', List.range_eq_range']
  congr 1
  have := List.range'_append_1 (s := 0) (m := m) (n := n - m)
  rw [Nat.zero_add, show m + (n - m) = n by omega] at this
  exact this.symm
theorem bh_congr {m n s t : Nat} (h : ∀ i, m ≤ i → s.testBit i = t.testBit i) : bh m n s = bh m n t := by
  unfold bh
  refine List.filter_congr fun i hi => ?_
  rw [List.mem_range'_1] at hi
  rw [h i hi.1]
/-- A set less one place. -/
theorem bl_less {n s t c : Nat} (hc : c < n) (h : ∀ i, t.testBit i = (s.testBit i && !decide (i = c))) : bl n t = bl c s ++ bh (c + 1) n s := by
  rw [bl_bh (Nat.le_of_lt hc), bh_step hc, h c]
  simp only [decide_true, Bool.not_true, Bool.and_false, Bool.false_eq_true, if_false]
  congr 1
  · exact bl_congr fun i hi => by rw [h i]; simp; omega
  · exact bh_congr fun i hi => by rw [h i]; simp; omega
theorem bl_split {n s c : Nat} (hc : c < n) (h : s.testBit c = true) : bl n s = bl c s ++ c :: bh (c + 1) n s := by
  rw [bl_bh (Nat.le_of_lt hc), bh_step hc, if_pos h]
theorem bl_ne {n s : Nat} (hs : s < 2 ^ n) (h0 : s ≠ 0) : 0 < (bl n s).length := by
  obtain ⟨i, hi⟩ := Nat.exists_testBit_of_ne_zero h0
  have hin : i < n := by
    rcases Nat.lt_or_ge i n with h | h
    · exact h
    · rw [Nat.testBit_lt_two_pow (Nat.lt_of_lt_of_le hs (Nat.pow_le_pow_right (by omega) h))] at hi
      cases hi
  exact List.length_pos_of_mem (a := i) (by simp [bl, hi, hin])
theorem bl_zero (n : Nat) : bl n 0 = [] := by simp [bl]
theorem bl_le (n s : Nat) : (bl n s).length ≤ n := by
  unfold bl
  have := List.length_filter_le (fun i => s.testBit i) (List.range n)
  simpa using this
theorem bl_full (n : Nat) : bl n (2 ^ n - 1) = List.range n := by
  unfold bl
  rw [List.filter_eq_self]
  intro i hi
  rw [Nat.testBit_two_pow_sub_one]
  simpa using hi

/-! ### signed sums from the other end -/
def Tl (f : Nat → List Nat → Int) : List Nat → List Nat → Int
  | _, [] => 0
  | pre, c :: post => (if post.length % 2 = 1 then -(f c (pre ++ post)) else f c (pre ++ post)) + Tl f (pre ++ [c]) post
theorem Tl_Sg (f : Nat → List Nat → Int) : ∀ (post pre : List Nat), Tl f pre post = sgn (post.length - 1) * Sg (fun c r => f c (pre ++ r)) post
  | [], pre => by simp [Tl, Sg]
  | c :: post, pre => by
    have ih := Tl_Sg f post (pre ++ [c])
    have e : Sg (fun c' r => f c' (pre ++ (c :: r))) post = Sg (fun c' r => f c' (pre ++ [c] ++ r)) post := Sg_ext _ fun c' r => by simp
    simp only [Tl, Sg, List.length_cons, Nat.add_sub_cancel]
    rw [ih, e]
    have hs : (if post.length % 2 = 1 then -(f c (pre ++ post)) else f c (pre ++ post)) = sgn post.length * f c (pre ++ post) := by
      unfold sgn
      by_cases h : post.length % 2 = 1
      · rw [if_pos h, if_neg (by omega)]; omega
      · rw [if_neg h, if_pos (by omega)]; omega
    rw [hs]
    cases post with
    | nil => simp [Sg]
    | cons d post =>
      simp only [List.length_cons, Nat.add_sub_cancel, sgn_succ]
      generalize sgn post.length = s
      generalize Sg (fun c' r => f c' (pre ++ [c] ++ r)) (d :: post) = x
      rw [Int.mul_sub, Int.neg_mul, Int.neg_mul]; omega

/-- The minor of the first rows at the columns of a set. -/
def mn (rs : List (Nat → Int)) (cols : List Nat) (n s : Nat) : Int := Dt (rs.take (bl n s).length) ((bl n s).map fun j => cols.getD j 0)
/-- What a place of a set gives. -/
def mnF (rs : List (Nat → Int)) (cols : List Nat) (k : Nat) (r : Nat → Int) (c : Nat) (rest : List Nat) : Int := r (cols.getD c 0) * Dt (rs.take k) (rest.map fun j => cols.getD j 0)
theorem mn_zero (rs : List (Nat → Int)) (cols : List Nat) (n : Nat) : mn rs cols n 0 = 1 := by simp [mn, bl_zero]
theorem mn_sum {rs : List (Nat → Int)} {cols : List Nat} {n s k : Nat} {r : Nat → Int} (hk : (bl n s).length = k + 1) (hr : rs[k]? = some r) : mn rs cols n s = Tl (mnF rs cols k r) [] (bl n s) := by
  have hkl : k < rs.length := (List.getElem?_eq_some_iff.1 hr).1
  have e : rs.take (k + 1) = rs.take k ++ [r] := by
    rw [List.take_add_one, hr]; rfl
  unfold mn
  rw [hk, e, Dt_last, Sg_map, Tl_Sg, hk]
  simp only [List.length_take, Nat.add_sub_cancel, List.nil_append]
  rw [show min k rs.length = k by omega]
  rfl
theorem mn_less {rs : List (Nat → Int)} {cols : List Nat} {n s t c k : Nat} {r : Nat → Int} (hk : (bl n s).length = k + 1) (hc : c < n) (hb : s.testBit c = true) (h : ∀ i, t.testBit i = (s.testBit i && !decide (i = c))) : mnF rs cols k r c (bl c s ++ bh (c + 1) n s) = r (cols.getD c 0) * mn rs cols n t := by
  have e := bl_less (n := n) hc h
  have e2 := bl_split hc hb
  have hl : (bl n t).length = k := by
    rw [e]; rw [e2] at hk
    simp at hk ⊢; omega
  unfold mnF mn
  rw [hl, e]
theorem mn_full {rs : List (Nat → Int)} {cols : List Nat} {n : Nat} (h1 : rs.length = n) (h2 : cols.length = n) : mn rs cols n (2 ^ n - 1) = Dt rs cols := by
  unfold mn
  rw [bl_full, List.length_range, ← h1, List.take_length, h1, ← h2]
  congr 1
  apply List.ext_getElem
  · simp
  · intro i h1 h2
    simp [List.getD, h2]

/-! ### the rank by minors -/
theorem rank_minors {A : Nat → Nat → Int} {n w b : Nat} (hw : ∀ i c, w ≤ c → A i c = 0) (h1 : b = 0 ∨ ∃ p q, p < 2 ^ n ∧ q < 2 ^ w ∧ (bl n p).length = b ∧ (bl w q).length = b ∧ Dt ((bl n p).map fun i => A i) (bl w q) ≠ 0)
    (h2 : ∀ p q, p < 2 ^ n → q < 2 ^ w → b < (bl n p).length → (bl w q).length = (bl n p).length → Dt ((bl n p).map fun i => A i) (bl w q) = 0) : IsRank (rowsOf n A) b := by
  constructor
  · intro hv
    rcases h1 with rfl | ⟨p, q, _, _, h3, h4, h5⟩
    · have := hv [] [] rfl (by simp) rfl
      simp at this
    · refine h5 (hv _ _ (by simpa using h3) (fun r hr => ?_) h4)
      obtain ⟨i, hi, rfl⟩ := List.mem_map.1 hr
      exact mem_rowsOf.2 ⟨i, (bl_lt hi).1, rfl⟩
  · refine VS_V hw fun at_ cols l1 l2 r1 r2 m1 m2 => ?_
    obtain ⟨p, hp, rfl⟩ := rise_bl n at_ r1 m1
    obtain ⟨q, hq, rfl⟩ := rise_bl w cols r2 m2
    exact h2 p q hp hq (by omega) (by omega)

theorem Vm_rows (A : Nat → Nat → Int) (n : Nat) : Vm (n + 1) (rowsOf n A) := by
  intro rs cols h1 h2 h3
  obtain ⟨idx, rfl, hi⟩ := idx_of h2
  rw [List.length_map] at h1
  refine Dt_dup (fun hn => ?_) A cols
  have := nodup_lt hn hi
  omega
theorem rank_le_rows {A : Nat → Nat → Int} {n r : Nat} (h : IsRank (rowsOf n A) r) : r ≤ n := by
  rcases Nat.lt_or_ge n r with e | e
  · exact absurd (Vm_le e (Vm_rows A n)) h.1
  · exact e
theorem Vm_turn {A : Nat → Nat → Int} {n w k : Nat} (hn : ∀ i c, n ≤ i → A i c = 0) (h : Vm k (rowsOf n A)) : Vm k (rowsOf w fun c i => A i c) := by
  intro rs cols h1 h2 h3
  obtain ⟨idx, rfl, hi⟩ := idx_of h2
  rw [List.length_map] at h1
  have e : Dt (idx.map fun c => fun i => A i c) cols = Dt (cols.map fun i => A i) idx := by
    rw [Dt_turn A idx cols (by omega)]
  rw [e]
  by_cases hc : ∃ i, i ∈ cols ∧ n ≤ i
  · obtain ⟨i, hi1, hi2⟩ := hc
    obtain ⟨s, t, rfl⟩ := List.append_of_mem hi1
    have hz : A i = fun _ => 0 := funext fun c => hn i c hi2
    simp only [List.map_append, List.map_cons, hz]
    exact Dt_zeroRow _ _ _
  · exact h _ _ (by simpa using h3) (fun r hr => by
      obtain ⟨i, hi1, rfl⟩ := List.mem_map.1 hr
      exact mem_rowsOf.2 ⟨i, Nat.lt_of_not_le fun e => hc ⟨i, hi1, e⟩, rfl⟩) h1
theorem rank_turn {A : Nat → Nat → Int} {n w r : Nat} (hn : ∀ i c, n ≤ i → A i c = 0) (hw : ∀ i c, w ≤ c → A i c = 0) (h : IsRank (rowsOf n A) r) : IsRank (rowsOf w fun c i => A i c) r :=
  ⟨fun hv => h.1 (Vm_turn (A := fun c i => A i c) (n := w) (w := n) (fun c i hc => hw i c hc) hv), Vm_turn hn h.2⟩
theorem rank_le_cols {A : Nat → Nat → Int} {n w r : Nat} (hn : ∀ i c, n ≤ i → A i c = 0) (hw : ∀ i c, w ≤ c → A i c = 0) (h : IsRank (rowsOf n A) r) : r ≤ w := rank_le_rows (rank_turn hn hw h)
/-- Of as many rows as columns the rank is full just if the determinant is not 0. -/
theorem rank_full {A : Nat → Nat → Int} {n r : Nat} (hw : ∀ i c, n ≤ c → A i c = 0) (h : IsRank (rowsOf n A) r) : r = n ↔ Dt (rowsOf n A) (List.range n) ≠ 0 := by
  constructor
  · rintro rfl hd
    refine h.1 (VS_V hw fun at_ cols l1 l2 r1 r2 m1 m2 => ?_)
    have key : ∀ l : List Nat, l.length = r → rise l → (∀ i, i ∈ l → i < r) → l = List.range r := by
      intro l hl hr hm
      obtain ⟨p, hp, rfl⟩ := rise_bl r l hr hm
      have : (bl r p).Sublist (List.range r) := List.filter_sublist
      exact this.eq_of_length (by simpa using hl)
    rw [key at_ l1 r1 m1, key cols l2 r2 m2]
    exact hd
  · intro hd
    have h1 := rank_le_rows h
    rcases Nat.lt_or_ge r n with e | e
    · refine absurd (Vm_le e h.2 (rowsOf n A) (List.range n) (by simp) (fun r hr => hr) (by simp)) hd
    · omega
/-- A row more that the others make. -/
theorem rank_more {A : Nat → Nat → Int} {n r : Nat} (h : IsRank (rowsOf n A) r) (hs : Span (rowsOf n A) (A n)) : IsRank (rowsOf (n + 1) A) r := by
  refine h.made (fun q hq => ?_) (fun q hq => ?_)
  · obtain ⟨i, hi, rfl⟩ := mem_rowsOf.1 hq
    by_cases e : i = n
    · subst e; exact ⟨1, by omega, by simpa using hs⟩
    · exact one_span (mem_rowsOf.2 ⟨i, by omega, rfl⟩)
  · obtain ⟨i, hi, rfl⟩ := mem_rowsOf.1 hq
    exact one_span (mem_rowsOf.2 ⟨i, by omega, rfl⟩)
end Go.Proofs.YtphndngifjgeoaaGreatDoor

/-! ExA: Rows of whole numbers, by value; lists that grow; the small functions on places. -/
set_option linter.unusedVariables false
set_option linter.unusedSimpArgs false
namespace Go.Proofs.YtphndngifjgeoaaGreatDoor
open Go.Proofs

/-! ### numbers in rows -/
structure Ent where
  n : Bool
  i : Sid
  l : List Nat
@[simp] def Ent.pv (e : Ent) : PV := .agg [.bool e.n, .sl e.i 1 (u32s e.l)]
structure Rw where
  i : Sid
  es : List Ent
@[simp] def Rw.pv (r : Rw) : PV := .sl r.i 2 (r.es.map Ent.pv)
def ints (l : List Int) : List PV := l.map fun x => .int .i64 x
def i64s (l : List Nat) : List PV := l.map fun (x : Nat) => .int .i64 (x : Int)
@[simp] theorem ints_length (l : List Int) : (ints l).length = l.length := by simp [ints]
@[simp] theorem i64s_length (l : List Nat) : (i64s l).length = l.length := by simp [i64s]
@[simp] theorem ints_get (l : List Int) (i : Nat) : (ints l)[i]? = (l[i]?).map fun x => PV.int .i64 x := by simp [ints]
@[simp] theorem i64s_get (l : List Nat) (i : Nat) : (i64s l)[i]? = (l[i]?).map fun (x : Nat) => PV.int .i64 (x : Int) := by simp [i64s]
@[simp] theorem i64s_nil : i64s [] = [] := nrfl rfl
@[simp] theorem i64s_snoc (l : List Nat) (x : Nat) : i64s l ++ [PV.int .i64 (x : Int)] = i64s (l ++ [x]) := by simp [i64s]
theorem i64s_append (l m : List Nat) : i64s l ++ i64s m = i64s (l ++ m) := by simp [i64s]
theorem i64s_take (l : List Nat) (n : Nat) : (i64s l).take n = i64s (l.take n) := by simp [i64s, List.map_take]
theorem i64s_drop (l : List Nat) (n : Nat) : (i64s l).drop n = i64s (l.drop n) := by simp [i64s, List.map_drop]
@[simp] theorem i64s_eq_nil (l : List Nat) : i64s l = [] ↔ l = [] := by simp [i64s]
theorem ints_i64s {l : List Int} (h : ∀ x, x ∈ l → 0 ≤ x) : ints l = i64s (l.map Int.toNat) := by
  induction l with
  | nil => rfl
  | cons x l ih =>
    have h0 := h x (by simp)
    have e : ((x.toNat : Nat) : Int) = x := by omega
    simp only [ints, i64s, List.map_cons, e] at ih ⊢
    rw [ih fun y hy => h y (by simp [hy])]

@[simp] theorem succ_beq_zero (k : Nat) : (((k : Int) + 1 == 0) : Bool) = false := by simp; omega
@[simp] theorem succ_bne_zero (k : Nat) : (((k : Int) + 1 != 0) : Bool) = true := by simp; omega
@[simp] theorem zero_lt_succ' (k : Nat) : (0 : Int) < (k : Int) + 1 := by omega

/-! ### boxes -/
section
variable {α : Type} (B l : List α) (k : Nat) (x : α)
@[simp] theorem ap_get0 : (B ++ l)[B.length]? = l[0]? := by rw [List.getElem?_append_right (Nat.le_refl _), Nat.sub_self]
@[simp] theorem ap_get : (B ++ l)[B.length + k]? = l[k]? := by rw [List.getElem?_append_right (Nat.le_add_right _ _), Nat.add_sub_cancel_left]
@[simp] theorem ap_get_lt (h : k < B.length) : (B ++ l)[k]? = B[k]? := List.getElem?_append_left h
@[simp] theorem ap_set0 : (B ++ l).set B.length x = B ++ l.set 0 x := by rw [List.set_append_right _ _ (Nat.le_refl _), Nat.sub_self]
@[simp] theorem ap_set : (B ++ l).set (B.length + k) x = B ++ l.set k x := by rw [List.set_append_right _ _ (Nat.le_add_right _ _), Nat.add_sub_cancel_left]
@[simp] theorem ap_set_lt (h : k < B.length) : (B ++ l).set k x = B.set k x ++ l := List.set_append_left _ _ h
end

/-! ### slices that grow -/
section
variable (s : St) (n : Nat) (t : List (Nat × Nat × Nat)) (d : Option Tmp) (v : PV)
@[simp] theorem bump_slots : (s.bump n t).slots = s.slots := nrfl rfl
@[simp] theorem bump_nt : (s.bump n t).nt = s.nt := nrfl rfl
@[simp] theorem bump_boxes : (s.bump n t).boxes = s.boxes := nrfl rfl
@[simp] theorem bump_next : (s.bump n t).next = n := nrfl rfl
@[simp] theorem bump_tips : (s.bump n t).tips = t := nrfl rfl
@[simp] theorem bump_D : (s.bump n t).D = s.D := nrfl rfl
@[simp] theorem bump_n0 : (s.bump n t).n0 = s.n0 := nrfl rfl
end
/-- A slice of this frame's own that may be appended to: none yet, or one with nothing behind it. -/
def Grow (tips : List (Nat × Nat × Nat)) (n nx : Nat) (i : Sid) (len : Nat) : Prop :=
  (i = ⟨0, 0, 0⟩ ∧ len = 0) ∨ (0 < i.g ∧ i.off = 0 ∧ tipOf tips i.g i.f = some len ∧ n ≤ i.f ∧ i.f < nx ∧ i.g < nx)
theorem Grow.sid {tips : List (Nat × Nat × Nat)} {n nx : Nat} {i : Sid} {len : Nat} (h : Grow tips n nx i len) : newSid n nx i := by
  rcases h with ⟨h, _⟩ | ⟨_, _, _, h1, h2, _⟩
  · exact .inl h
  · exact .inr ⟨h1, h2⟩
theorem Grow.mono {tips : List (Nat × Nat × Nat)} {n nx nx' : Nat} {i : Sid} {len : Nat} (h : Grow tips n nx i len) (hn : nx ≤ nx') : Grow tips n nx' i len := by
  rcases h with h | ⟨h1, h2, h3, h4, h5, h6⟩
  · exact .inl h
  · exact .inr ⟨h1, h2, h3, h4, by omega, by omega⟩
theorem Grow.cons {tips : List (Nat × Nat × Nat)} {n nx : Nat} {i : Sid} {len : Nat} (h : Grow tips n nx i len) {g f T : Nat} (hg : nx ≤ g) : Grow ((g, f, T) :: tips) n nx i len := by
  rcases h with h | ⟨h1, h2, h3, h4, h5, h6⟩
  · exact .inl h
  · exact .inr ⟨h1, h2, by rw [tipOf_tail _ _ _ _ _ _ (by omega)]; exact h3, h4, h5, h6⟩
theorem Grow.nil (tips : List (Nat × Nat × Nat)) (n nx : Nat) : Grow tips n nx ⟨0, 0, 0⟩ 0 := .inl ⟨rfl, rfl⟩
theorem Grow.fresh (tips : List (Nat × Nat × Nat)) {n nx g : Nat} (T : Nat) (h : n ≤ g) (h0 : 0 < g) (hx : g < nx) : Grow ((g, g, T) :: tips) n nx ⟨g, g, 0⟩ T :=
  .inr ⟨h0, rfl, tipOf_head g g T tips, h, hx, hx⟩
theorem AppK_grow {m by_ n len : Nat} {i i2 : Sid} {z : Nat} {es es2 : List PV} {s : St} {K : St → PV → Prop} (h : Grow s.tips n s.next i len) (hlen : len = es.length * m) (hn : n ≤ s.next) (hn0 : 0 < n) (hz' : i.g = 0 ∨ z = m) (hl : (es.length + es2.length) * by_ ≤ 140737488355328) (hm : 0 < m) (h2 : es2 ≠ [])
    (hK : ∀ (tips : List (Nat × Nat × Nat)) (i' : Sid), (∀ g f, g < s.next → g ≠ i.g → tipOf tips g f = tipOf s.tips g f) → s.next ≤ i'.g → i'.off = 0 → Grow tips n (s.next + 1) i' ((es.length + es2.length) * m) → K (s.bump (s.next + 1) tips) (.sl i' m (es ++ es2))) : AppK m by_ (.sl i z es) (.sl i2 m es2) s K := by
  unfold AppK
  simp only
  refine ⟨hl, .inl trivial, ?_⟩
  rcases h with ⟨rfl, h0⟩ | ⟨h1, h2', h3, h4, h5, h6⟩
  · have he : es = [] := by
      rcases Nat.eq_zero_or_pos es.length with e | e
      · exact List.eq_nil_of_length_eq_zero e
      · have := Nat.mul_pos e hm; omega
    subst he
    rw [if_pos rfl]
    refine ⟨rfl, h2, ?_⟩
    rw [fresh_bump]
    refine hK _ ⟨s.next, s.next, 0⟩ (fun g f hg _ => by rw [tipOf_tail _ _ _ _ _ _ (by omega)]) (Nat.le_refl _) rfl ?_
    simp only [List.length_nil, Nat.zero_add]
    exact .fresh _ _ hn (by omega) (Nat.lt_succ_self _)
  · have hzz : z = m := hz'.resolve_left (by omega)
    rw [if_neg (by omega)]
    refine ⟨hzz, by rw [h3, h2', hlen]; simp, ?_⟩
    rw [regrown_bump]
    refine hK _ ⟨i.f, s.next, 0⟩ (fun g f hg hne => ?_) (Nat.le_refl _) rfl ?_
    · rw [tipOf_tail _ _ _ _ _ _ (by omega)]
      unfold tipOf
      congr 1
      induction s.tips with
      | nil => rfl
      | cons x t ih =>
        by_cases hx : x.1 = i.g
        · have e1 : (x.1 != i.g) = false := by simp [hx]
          have e2 : (x.1 == g) = false := by simp [hx]; omega
          simp [List.filter_cons, e1, List.find?_cons, e2, ih]
        · have e1 : (x.1 != i.g) = true := by simp [hx]
          simp only [List.filter_cons, e1, if_true, List.find?_cons, ih]
    · exact .inr ⟨by show 0 < s.next; omega, rfl, tipOf_head _ _ _ _, h4, by show i.f < _; omega, Nat.lt_succ_self _⟩
end Go.Proofs.YtphndngifjgeoaaGreatDoor

/-! ExB: The small functions of layer 3, by value. -/
set_option linter.unusedVariables false
set_option linter.unusedSimpArgs false
namespace Go.Proofs.YtphndngifjgeoaaGreatDoor
open Go.Proofs

def widthR (M : List Rw) : Nat := match M with | [] => 0 | r :: _ => r.es.length
theorem width_call {n : Nat} (hn : 0 < n) (i : Sid) (M : List Rw) (hM : M.length < 35184372088800) (hw : widthR M < 35184372088800) {Q : PV → Nat → List Nat → Prop}
    (hQ : Q (.int .i64 (widthR M)) n []) : PCall Tryz.prog 71 [.sl i 1 (M.map Rw.pv)] n Q := by
  refine of71 hn ?_
  cases M with
  | nil => simpa (disch := omega) [c71, widthR] using hQ
  | cons r M =>
    simpa (disch := omega) [c71, widthR] using hQ
/-! ### places -/
/-- One element more behind a slice that grows. -/
theorem AppK_one {m by_ n nx L : Nat} {i i2 : Sid} {es : List PV} {p : PV} {s : St} {K : St → PV → Prop} (hnx : s.next = nx + 1) (ht : ∃ (tips : List (Nat × Nat × Nat)) (T : Nat), s.tips = (nx, nx, T) :: tips ∧ Grow tips n nx i (es.length * m)) (hn : n ≤ nx) (hn0 : 0 < n) (hl : (es.length + 1) * by_ ≤ 140737488355328) (hm : 0 < m)
    (hL : L = (es.length + 1) * m) (hK : ∀ (tips : List (Nat × Nat × Nat)) (i' : Sid), 0 < i'.g → i'.off = 0 → Grow tips n (nx + 2) i' L → K (s.bump (nx + 2) tips) (.sl i' m (es ++ [p]))) : AppK m by_ (.sl i m es) (.sl i2 m [p]) s K := by
  obtain ⟨tips, T, h1, h2⟩ := ht
  subst hL
  refine AppK_grow (n := n) (len := es.length * m) (by rw [h1, hnx]; exact (h2.cons (Nat.le_refl _)).mono (by omega)) rfl (by omega) hn0 (.inr rfl) (by simpa using hl) hm (by simp) fun tips' i' _ g1 g2 g3 => ?_
  rw [hnx] at g3 ⊢
  exact hK tips' i' (by omega) g2 (by simpa using g3)
/-- One element more, and other slices that grow go on growing. -/
theorem AppK_two {m by_ n nx L : Nat} {i i2 : Sid} {es : List PV} {p : PV} {s : St} {K : St → PV → Prop} {tips0 : List (Nat × Nat × Nat)} {T : Nat} (hnx : s.next = nx + 1) (ht : s.tips = (nx, nx, T) :: tips0) (ht2 : Grow tips0 n nx i (es.length * m)) (hn : n ≤ nx) (hn0 : 0 < n) (hl : (es.length + 1) * by_ ≤ 140737488355328) (hm : 0 < m)
    (hL : L = (es.length + 1) * m) (hK : ∀ (tips : List (Nat × Nat × Nat)) (i' : Sid), nx < i'.g → i'.off = 0 → Grow tips n (nx + 2) i' L → (∀ i2 len2, Grow tips0 n nx i2 len2 → i2.g = 0 ∨ i2.g ≠ i.g → Grow tips n (nx + 2) i2 len2) → K (s.bump (nx + 2) tips) (.sl i' m (es ++ [p]))) : AppK m by_ (.sl i m es) (.sl i2 m [p]) s K := by
  subst hL
  refine AppK_grow (n := n) (len := es.length * m) (by rw [ht, hnx]; exact (ht2.cons (Nat.le_refl _)).mono (by omega)) rfl (by omega) hn0 (.inr rfl) (by simpa using hl) hm (by simp) fun tips' i' g0 g1 g2 g3 => ?_
  rw [hnx] at g3 ⊢
  refine hK tips' i' (by omega) g2 (by simpa using g3) fun i3 l3 h3 h4 => ?_
  rcases h3 with h3 | ⟨q1, q2, q3, q4, q5, q6⟩
  · exact .inl h3
  · refine .inr ⟨q1, q2, ?_, q4, by omega, by omega⟩
    rw [g0 i3.g i3.f (by omega) (by omega), ht, tipOf_tail _ _ _ _ _ _ (by omega)]
    exact q3
def firstI (N n : Nat) (k : Nat) (s : St) : Prop :=
  ∃ (j nx : Nat) (i : Sid), j + k = N ∧ At s 15 [] nx [(3, .sl i 1 (i64s (List.range j))), (5, .int .i64 N), (6, .int .i64 j)] ∧ Grow s.tips n nx i j ∧ n ≤ nx
def FirstI (N n : Nat) (k : Nat) (s : St) : Prop :=
  ∃ (j nx : Nat) (i : Sid), j + k = N ∧ At s 16 [] nx [(0, .int .i64 N), (3, .sl i 1 (i64s (List.range j))), (4, .int .i64 j)] ∧ Grow s.tips n nx i j ∧ n ≤ nx
def placesI (x n : Nat) (k : Nat) (s : St) : Prop :=
  ∃ (j nx : Nat) (i : Sid), j + k = 6 ∧ At s 19 [] nx [(0, .int .i64 x), (3, .sl i 1 (i64s (bl j x))), (5, .int .i64 j)] ∧ Grow s.tips n nx i (bl j x).length ∧ n ≤ nx
theorem places_call {n : Nat} (hn : 0 < n) (x : Nat) (hx : x < 1000000) {Q : PV → Nat → List Nat → Prop}
    (hQ : ∀ (i : Sid) (n' : Nat), n ≤ n' → newSid n n' i → Q (.sl i 1 (i64s (bl 6 x))) n' []) : PCall Tryz.prog 93 [.int .i64 x] n Q := by
  refine of93 hn ?_
  simp (disch := omega) [c93]
  refine GO_loopN (placesI x n) 6 ⟨0, n, ⟨0, 0, 0⟩, by omega, by simp [At, bl], by simpa [bl] using Grow.nil _ _ _, by omega⟩ ?_
  rintro k s ⟨j, nx, i, hj, ⟨e1, e2, e3, e4, e5⟩, hg, hnx⟩
  simp at e5
  obtain ⟨e5, e6, e7⟩ := e5
  have hl := bl_le j x
  by_cases hk : j < 6
  · obtain ⟨q, hq1, hq2⟩ := bit_get (P := Tryz.prog) (P2 := Tryz.prog) (t := 3) (t2 := 3) (a := x) (i := j) (by omega) (by omega)
    by_cases hb : x.testBit j = true
    · simp only [hb] at hq2
      simp (disch := omega) [-binPV_shr, -binPV_and, hq1, hq2, c93L0, e1, e2, e3, e4, e5, e6, e7, hk, hb]
      refine AppK_one (L := (bl (j + 1) x).length) (by simp [e3]) ⟨s.tips, 1, by simp [e3], by simpa using hg⟩ hnx hn (by simp; omega) (by omega) (by rw [bl_succ, if_pos hb]; simp) fun tips i' h1 h2 h3 => ?_
      simp (disch := omega) [e1, e2, e3, e4, e5, e6, e7, hk]
      exact ⟨k - 1, by omega, j + 1, nx + 2, i', by omega, by simp [At, e1, e2, e3, e4, e5, e6, e7, bl_succ, hb], by simpa using h3, by omega⟩
    · simp only [hb] at hq2
      simp (disch := omega) [-binPV_shr, -binPV_and, hq1, hq2, c93L0, e1, e2, e3, e4, e5, e6, e7, hk, hb]
      exact ⟨k - 1, by omega, j + 1, nx, i, by omega, by simp [At, e1, e2, e3, e4, e5, e6, e7, bl_succ, hb], by simpa [bl_succ, hb] using hg, by omega⟩
  · have hjn : j = 6 := by omega
    subst hjn
    simpa (disch := omega) [c93L0, c93R0, e1, e2, e3, e4, e5, e6, e7, hk, hnx] using hQ i nx hnx hg.sid

/-! ### how many are 1 -/
theorem oc_all : ∀ x : Fin 64, (let a1 := x.1 / 2; let a2 := a1 &&& 6148914691236517205; let a3 := x.1 &&& 6148914691236517205; let y := a2 + a3; let a4 := y / 4; let a5 := a4 &&& 3689348814741910323; let a6 := y &&& 3689348814741910323; let z := a5 + a6; let a7 := z / 16; let a8 := a7 + z; let u := a8 &&& 1085102592571150095; let a9 := u / 256; let v := u + a9; let a10 := v / 65536; let q := v + a10; let a11 := q / 4294967296; let r := q + a11; (a1 < 100 ∧ a2 < 100 ∧ a3 < 100 ∧ y < 100 ∧ a4 < 100 ∧ a5 < 100 ∧ a6 < 100 ∧ z < 100 ∧ a7 < 100 ∧ a8 < 100 ∧ u < 100 ∧ a9 < 100 ∧ v < 100 ∧ a10 < 100 ∧ q < 100 ∧ a11 < 100 ∧ r < 100) ∧ r &&& 127 = (bl 6 x.1).length) := by decide +kernel
theorem OnesCount64_call {n : Nat} (hn : 0 < n) (x : Nat) (hx : x < 64) {Q : PV → Nat → List Nat → Prop}
    (hQ : Q (.int .i64 ((bl 6 x).length : Nat)) n []) : PCall Tryz.prog 90 [.int .u64 x] n Q := by
  refine of90 hn ?_
  have h := oc_all ⟨x, hx⟩
  simp only at h
  obtain ⟨a1, ha1⟩ : ∃ a1 : Nat, a1 = x / 2 := ⟨_, rfl⟩
  rw [← ha1] at h
  obtain ⟨a2, ha2⟩ : ∃ a2 : Nat, a2 = a1 &&& 6148914691236517205 := ⟨_, rfl⟩
  rw [← ha2] at h
  obtain ⟨a3, ha3⟩ : ∃ a3 : Nat, a3 = x &&& 6148914691236517205 := ⟨_, rfl⟩
  rw [← ha3] at h
  obtain ⟨y, hy⟩ : ∃ y : Nat, y = a2 + a3 := ⟨_, rfl⟩
  rw [← hy] at h
  obtain ⟨a4, ha4⟩ : ∃ a4 : Nat, a4 = y / 4 := ⟨_, rfl⟩
  rw [← ha4] at h
  obtain ⟨a5, ha5⟩ : ∃ a5 : Nat, a5 = a4 &&& 3689348814741910323 := ⟨_, rfl⟩
  rw [← ha5] at h
  obtain ⟨a6, ha6⟩ : ∃ a6 : Nat, a6 = y &&& 3689348814741910323 := ⟨_, rfl⟩
  rw [← ha6] at h
  obtain ⟨z, hz⟩ : ∃ z : Nat, z = a5 + a6 := ⟨_, rfl⟩
  rw [← hz] at h
  obtain ⟨a7, ha7⟩ : ∃ a7 : Nat, a7 = z / 16 := ⟨_, rfl⟩
  rw [← ha7] at h
  obtain ⟨a8, ha8⟩ : ∃ a8 : Nat, a8 = a7 + z := ⟨_, rfl⟩
  rw [← ha8] at h
  obtain ⟨u, hu⟩ : ∃ u : Nat, u = a8 &&& 1085102592571150095 := ⟨_, rfl⟩
  rw [← hu] at h
  obtain ⟨a9, ha9⟩ : ∃ a9 : Nat, a9 = u / 256 := ⟨_, rfl⟩
  rw [← ha9] at h
  obtain ⟨v, hv⟩ : ∃ v : Nat, v = u + a9 := ⟨_, rfl⟩
  rw [← hv] at h
  obtain ⟨a10, ha10⟩ : ∃ a10 : Nat, a10 = v / 65536 := ⟨_, rfl⟩
  rw [← ha10] at h
  obtain ⟨q, hq⟩ : ∃ q : Nat, q = v + a10 := ⟨_, rfl⟩
  rw [← hq] at h
  obtain ⟨a11, ha11⟩ : ∃ a11 : Nat, a11 = q / 4294967296 := ⟨_, rfl⟩
  rw [← ha11] at h
  obtain ⟨r, hr⟩ : ∃ r : Nat, r = q + a11 := ⟨_, rfl⟩
  rw [← hr] at h
  obtain ⟨⟨bda1, bda2, bda3, bdy, bda4, bda5, bda6, bdz, bda7, bda8, bdu, bda9, bdv, bda10, bdq, bda11, bdr⟩, he⟩ := h
  have sa1 : binPV Tryz.prog .shr 48 (.int .u64 (x : Nat)) (.int .u64 1) = some (.int .u64 (a1 : Nat)) := by
    rw [ha1]; exact (by have := shr_nat_lit (P := Tryz.prog) (t := 48) (k := .u64) (k' := .u64) (a := x) (n := 1) (by decide); exact this)
  have sa2 : binPV Tryz.prog .and 48 (.int .u64 (a1 : Nat)) (.int .u64 6148914691236517205) = some (.int .u64 (a2 : Nat)) := by
    rw [ha2]; exact (and_u64_lit (by omega) (by decide))
  have sa3 : binPV Tryz.prog .and 48 (.int .u64 (x : Nat)) (.int .u64 6148914691236517205) = some (.int .u64 (a3 : Nat)) := by
    rw [ha3]; exact (and_u64_lit (by omega) (by decide))
  have sy : binPV Tryz.prog .add 48 (.int .u64 (a2 : Nat)) (.int .u64 (a3 : Nat)) = some (.int .u64 (y : Nat)) := by
    rw [hy]; exact (by rw [binPV_add]; congr 2; exact wrap_u64_nat _ (by omega))
  have sa4 : binPV Tryz.prog .shr 48 (.int .u64 (y : Nat)) (.int .u64 2) = some (.int .u64 (a4 : Nat)) := by
    rw [ha4]; exact (by have := shr_nat_lit (P := Tryz.prog) (t := 48) (k := .u64) (k' := .u64) (a := y) (n := 2) (by decide); exact this)
  have sa5 : binPV Tryz.prog .and 48 (.int .u64 (a4 : Nat)) (.int .u64 3689348814741910323) = some (.int .u64 (a5 : Nat)) := by
    rw [ha5]; exact (and_u64_lit (by omega) (by decide))
  have sa6 : binPV Tryz.prog .and 48 (.int .u64 (y : Nat)) (.int .u64 3689348814741910323) = some (.int .u64 (a6 : Nat)) := by
    rw [ha6]; exact (and_u64_lit (by omega) (by decide))
  have sz : binPV Tryz.prog .add 48 (.int .u64 (a5 : Nat)) (.int .u64 (a6 : Nat)) = some (.int .u64 (z : Nat)) := by
    rw [hz]; exact (by rw [binPV_add]; congr 2; exact wrap_u64_nat _ (by omega))
  have sa7 : binPV Tryz.prog .shr 48 (.int .u64 (z : Nat)) (.int .u64 4) = some (.int .u64 (a7 : Nat)) := by
    rw [ha7]; exact (by have := shr_nat_lit (P := Tryz.prog) (t := 48) (k := .u64) (k' := .u64) (a := z) (n := 4) (by decide); exact this)
  have sa8 : binPV Tryz.prog .add 48 (.int .u64 (a7 : Nat)) (.int .u64 (z : Nat)) = some (.int .u64 (a8 : Nat)) := by
    rw [ha8]; exact (by rw [binPV_add]; congr 2; exact wrap_u64_nat _ (by omega))
  have su : binPV Tryz.prog .and 48 (.int .u64 (a8 : Nat)) (.int .u64 1085102592571150095) = some (.int .u64 (u : Nat)) := by
    rw [hu]; exact (and_u64_lit (by omega) (by decide))
  have sa9 : binPV Tryz.prog .shr 48 (.int .u64 (u : Nat)) (.int .u64 8) = some (.int .u64 (a9 : Nat)) := by
    rw [ha9]; exact (by have := shr_nat_lit (P := Tryz.prog) (t := 48) (k := .u64) (k' := .u64) (a := u) (n := 8) (by decide); exact this)
  have sv : binPV Tryz.prog .add 48 (.int .u64 (u : Nat)) (.int .u64 (a9 : Nat)) = some (.int .u64 (v : Nat)) := by
    rw [hv]; exact (by rw [binPV_add]; congr 2; exact wrap_u64_nat _ (by omega))
  have sa10 : binPV Tryz.prog .shr 48 (.int .u64 (v : Nat)) (.int .u64 16) = some (.int .u64 (a10 : Nat)) := by
    rw [ha10]; exact (by have := shr_nat_lit (P := Tryz.prog) (t := 48) (k := .u64) (k' := .u64) (a := v) (n := 16) (by decide); exact this)
  have sq : binPV Tryz.prog .add 48 (.int .u64 (v : Nat)) (.int .u64 (a10 : Nat)) = some (.int .u64 (q : Nat)) := by
    rw [hq]; exact (by rw [binPV_add]; congr 2; exact wrap_u64_nat _ (by omega))
  have sa11 : binPV Tryz.prog .shr 48 (.int .u64 (q : Nat)) (.int .u64 32) = some (.int .u64 (a11 : Nat)) := by
    rw [ha11]; exact (by have := shr_nat_lit (P := Tryz.prog) (t := 48) (k := .u64) (k' := .u64) (a := q) (n := 32) (by decide); exact this)
  have sr : binPV Tryz.prog .add 48 (.int .u64 (q : Nat)) (.int .u64 (a11 : Nat)) = some (.int .u64 (r : Nat)) := by
    rw [hr]; exact (by rw [binPV_add]; congr 2; exact wrap_u64_nat _ (by omega))
  have sr2 : IntKind.i64.wrap (r : Int) = (r : Int) := wrap_i64_nat r (by omega)
  have sr3 : binPV Tryz.prog .and 3 (.int .i64 (r : Int)) (.int .i64 127) = some (.int .i64 ((bl 6 x).length : Nat)) := by
    rw [← he]; exact and_i64_lit (by omega) (by decide)
  simpa (disch := omega) [c90, -binPV_shr, -binPV_and, -binPV_add, sa1, sa2, sa3, sy, sa4, sa5, sa6, sz, sa7, sa8, su, sa9, sv, sa10, sq, sa11, sr, sr2, sr3] using hQ
theorem OnesCount_call {n : Nat} (hn : 0 < n) (x : Nat) (hx : x < 64) {Q : PV → Nat → List Nat → Prop}
    (hQ : Q (.int .i64 ((bl 6 x).length : Nat)) n []) : PCall Tryz.prog 70 [.int .u64 x] n Q := by
  refine of70 hn ?_
  simp (disch := omega) [c70]
  refine CallK.of (by simp) (OnesCount64_call hn x hx ?_)
  simpa using hQ
end Go.Proofs.YtphndngifjgeoaaGreatDoor

/-! ExC: Rows picked, places that rise, lists less one place, by value. -/
set_option linter.unusedVariables false
set_option linter.unusedSimpArgs false
namespace Go.Proofs.YtphndngifjgeoaaGreatDoor
open Go.Proofs

instance : Inhabited Rw := ⟨⟨⟨0, 0, 0⟩, []⟩⟩
theorem AppK_gen {m by_ f g off : Nat} {i2 : Sid} {z2 : Nat} {es es2 : List PV} {s : St} {K : St → PV → Prop} (hg : ¬ g = 0) :
    AppK m by_ (.sl ⟨f, g, off⟩ m es) (.sl i2 z2 es2) s K ↔ (es.length + es2.length) * by_ ≤ 140737488355328 ∧ (z2 = m ∨ es2 = []) ∧ tipOf s.tips g f = some (off + es.length * m) ∧ K (s.regrown g f ((es.length + es2.length) * m)) (.sl ⟨f, s.next, 0⟩ m (es ++ es2)) := by
  simp [AppK, hg]
@[simp] theorem sliceP_succ (z : Nat) (i : Sid) (es : List PV) (lo hi : Nat) (h : lo + 1 ≤ hi ∧ hi ≤ es.length) : sliceP z i es ((lo : Int) + 1) (hi : Int) = some (.sl ⟨i.f, i.g, i.off + (lo + 1) * z⟩ z ((es.drop (lo + 1)).take (hi - (lo + 1)))) := sliceP_nat z i es (lo + 1) hi h
theorem take_rest {α : Type} (l : List α) (k : Nat) : (l.drop k).take (l.length - k) = l.drop k := List.take_of_length_le (by simp)

def lessOne (l : List Nat) (c : Nat) : List Nat := l.take c ++ l.drop (c + 1)
def pickR (M : List Rw) (l : List Nat) : List Rw := l.map fun j => M.getD j default
def someI (i ia : Sid) (M : List Rw) (l : List Nat) (n : Nat) (k : Nat) (s : St) : Prop :=
  ∃ (j nx : Nat) (o : Sid), j + k = l.length ∧ At s 23 [] nx [(0, .sl i 1 (M.map Rw.pv)), (5, .sl o 1 ((pickR M (l.take j)).map Rw.pv)), (8, .sl ia 1 (i64s l)), (9, .int .i64 l.length), (10, .int .i64 j)] ∧ Grow s.tips n nx o j ∧ n ≤ nx
theorem some_call {n : Nat} (hn : 0 < n) (i ia : Sid) (M : List Rw) (l : List Nat) (hM : M.length < 1000000) (hl : l.length < 1000000) (hi : ∀ j, j ∈ l → j < M.length) {Q : PV → Nat → List Nat → Prop}
    (hQ : ∀ (i : Sid) (n' : Nat), n ≤ n' → newSid n n' i → Q (.sl i 1 ((pickR M l).map Rw.pv)) n' []) : PCall Tryz.prog 92 [.sl i 1 (M.map Rw.pv), .sl ia 1 (i64s l)] n Q := by
  refine of92 hn ?_
  simp (disch := omega) [c92]
  refine GO_loopN (someI i ia M l n) l.length ⟨0, n, ⟨0, 0, 0⟩, by omega, by simp [At, pickR], .nil _ _ _, by omega⟩ ?_
  rintro k s ⟨j, nx, o, hj, ⟨e1, e2, e3, e4, e5⟩, hg, hnx⟩
  simp at e5
  obtain ⟨e5, e6, e7, e8, e9⟩ := e5
  by_cases hk : j < l.length
  · have hx := hi l[j] (List.getElem_mem _)
    obtain ⟨x, hx0⟩ : ∃ x, x = l[j] := ⟨_, rfl⟩
    rw [← hx0] at hx
    have hlj : l[j]? = some x := by rw [List.getElem?_eq_getElem hk, hx0]
    have hpl : (pickR M (l.take j)).length = j := by simp [pickR]; omega
    have hgd : l.getD j 0 = x := by simp [List.getD, hlj]
    simp (disch := omega) [c92L0, e1, e2, e3, e4, e5, e6, e7, e8, e9, hk, ← hx0, hx]
    refine AppK_one (L := j + 1) (by simp [e3]) ⟨s.tips, 1, by simp [e3], by simpa [hpl] using hg⟩ hnx hn (by simp [hpl]; omega) (by omega) (by simp [hpl]) fun tips i' h1 h2 h3 => ?_
    simp (disch := omega) [e1, e2, e3, e4, e5, e6, e7, e8, e9, hk]
    have hp : pickR M (l.take (j + 1)) = pickR M (l.take j) ++ [M[x]] := by
      rw [List.take_add_one, hlj]; simp [pickR, List.getD, hx]
    exact ⟨k - 1, by omega, j + 1, nx + 2, i', by omega, by simp [At, e1, e2, e3, e4, e5, e6, e7, e8, e9, hp], by simpa using h3, by omega⟩
  · have hjn : j = l.length := by omega
    subst hjn
    have hp : l.take l.length = l := List.take_length
    rw [hp] at e6
    simpa (disch := omega) [c92L0, c92R0, e1, e2, e3, e4, e5, e6, e7, e8, e9, hk, hnx] using hQ o nx hnx hg.sid

/-! ### places that rise -/
/-- Place j of a list is in its range, and above the one before. -/
def riseAt (l : List Int) (w : Int) (j : Nat) : Bool := decide (0 ≤ l.getD j 0) && decide (l.getD j 0 < w) && (decide (j = 0) || decide (l.getD (j - 1) 0 < l.getD j 0))
def riseB (l : List Int) (w : Int) : Bool := (List.range l.length).all (riseAt l w)
theorem riseB_false {l : List Int} {w : Int} {j : Nat} (hj : j < l.length) (h : riseAt l w j = false) : riseB l w = false := by
  unfold riseB
  rw [List.all_eq_false]
  exact ⟨j, by simpa using hj, by simp [h]⟩
theorem riseB_true {l : List Int} {w : Int} (h : ∀ j, j < l.length → riseAt l w j = true) : riseB l w = true := by
  unfold riseB
  rw [List.all_eq_true]
  exact fun j hj => h j (by simpa using hj)
def RisingI (i : Sid) (l : List Int) (w : Int) (n : Nat) (k : Nat) (s : St) : Prop :=
  ∃ j : Nat, j + k = l.length ∧ At s 41 [] n [(0, .sl i 1 (ints l)), (1, .int .i64 w), (5, .int .i64 j)] ∧ ∀ q, q < j → riseAt l w q = true
def risingI (i : Sid) (l : List Int) (w : Int) (n : Nat) (k : Nat) (s : St) : Prop :=
  ∃ j : Nat, j + k = l.length ∧ At s 35 [] n [(0, .sl i 1 (ints l)), (1, .int .i64 w), (7, .sl i 1 (ints l)), (8, .int .i64 l.length), (9, .int .i64 j)] ∧ ∀ q, q < j → riseAt l w q = true
end Go.Proofs.YtphndngifjgeoaaGreatDoor

/-! ExD: The determinant as the program reckons it, by value. -/
set_option linter.unusedVariables false
set_option linter.unusedSimpArgs false
namespace Go.Proofs.YtphndngifjgeoaaGreatDoor
open Go.Proofs

def Ent.num (e : Ent) : Int := numW e.n e.l
structure EOk (n b : Nat) (e : Ent) : Prop where
  f : e.i.f < n
  r : rightW e.n e.l = true
  l : Lim e.l
  b : e.l.length ≤ b
structure RwOk (n w b : Nat) (r : Rw) : Prop where
  f : r.i.f < n
  w : r.es.length = w
  e : ∀ e, e ∈ r.es → EOk n b e
def MxOk (n w b : Nat) (M : List Rw) : Prop := ∀ r, r ∈ M → RwOk n w b r
theorem EOk.mono {n n' b : Nat} {e : Ent} (h : EOk n b e) (hn : n ≤ n') : EOk n' b e := ⟨Nat.lt_of_lt_of_le h.f hn, h.r, h.l, h.b⟩
theorem RwOk.mono {n n' w b : Nat} {r : Rw} (h : RwOk n w b r) (hn : n ≤ n') : RwOk n' w b r := ⟨Nat.lt_of_lt_of_le h.f hn, h.w, fun e he => (h.e e he).mono hn⟩
theorem MxOk.mono {n n' w b : Nat} {M : List Rw} (h : MxOk n w b M) (hn : n ≤ n') : MxOk n' w b M := fun r hr => (h r hr).mono hn
theorem EOk.is {n b : Nat} {e : Ent} (h : EOk n b e) : e.n = decide (e.num < 0) ∧ e.l = dig e.num.natAbs ∧ sz e.num b := by
  obtain ⟨x, h1, h2⟩ := right_Z h.r h.l
  have hx : e.num = x := by unfold Ent.num; rw [h1, h2, numW_dig]
  rw [hx]
  refine ⟨h1, h2, ?_⟩
  have := h.b
  rw [h2] at this
  exact (sz_dig x).mono this
def Rw.f (r : Rw) : Nat → Int := fun c => match r.es[c]? with | some e => e.num | none => 0
def Mf (M : List Rw) : Nat → Nat → Int := fun i => match M[i]? with | some r => r.f | none => fun _ => 0
theorem map_f (M : List Rw) : M.map Rw.f = rowsOf M.length (Mf M) := by
  apply List.ext_getElem?
  intro i
  by_cases h : i < M.length
  · simp [h, Mf]
  · simp [h]

/-! ### how great determinants are -/
theorem sz_Sg {k : Nat} : ∀ (l : List Nat) {g : Nat → List Nat → Int}, (∀ c r, sz (g c r) k) → sz (Sg g l) (k + l.length)
  | [], g, h => by unfold Sg sz; exact Nat.pow_pos (by omega)
  | c :: l, g, h => by
    unfold Sg
    have := sz_Sg l (g := fun c' rest => g c' (c :: rest)) fun c' r => h c' _
    exact ((h c l).mono (show k ≤ k + l.length by omega)).sub this
theorem sz_Dt {b : Nat} : ∀ (rs : List (Nat → Int)) (cols : List Nat), (∀ r, r ∈ rs → ∀ c, sz (r c) b) → cols.length ≤ 6 → sz (Dt rs cols) (1 + rs.length * (b + 6))
  | [], cols, _, _ => by rw [Dt_nil]; unfold sz; exact Nat.one_lt_pow (by simp) (by omega)
  | r :: rs, cols, h, hc => by
    rw [Dt_cons]
    have : ∀ (l : List Nat) (pre : List Nat), pre.length + l.length ≤ 6 → sz (Sg (fun c rest => r c * Dt rs (pre ++ rest)) l) (1 + rs.length * (b + 6) + b + l.length) := by
      intro l
      induction l with
      | nil => intro pre _; unfold Sg sz; exact Nat.pow_pos (by omega)
      | cons c l ih =>
        intro pre hp
        unfold Sg
        simp at hp
        have h1 : sz (r c * Dt rs (pre ++ l)) (b + (1 + rs.length * (b + 6))) := (h r (by simp) c).mul (sz_Dt rs _ (fun r hr => h r (by simp [hr])) (by simp; omega))
        have h2 := ih (pre ++ [c]) (by simp; omega)
        have e : Sg (fun c' rest => r c' * Dt rs (pre ++ (c :: rest))) l = Sg (fun c' rest => r c' * Dt rs (pre ++ [c] ++ rest)) l := Sg_ext _ fun c' rest => by simp
        rw [e]
        exact (h1.mono (by omega)).sub h2 |>.mono (by simp; omega)
    have := this cols [] (by simpa using hc)
    simp only [List.nil_append] at this
    refine this.mono ?_
    simp only [List.length_cons, Nat.add_mul, Nat.one_mul]
    omega
theorem sz_f {n w b : Nat} {r : Rw} (h : RwOk n w b r) (c : Nat) : sz (r.f c) b := by
  unfold Rw.f
  cases hc : r.es[c]? with
  | none => unfold sz; exact Nat.pow_pos (by omega)
  | some e => exact (h.e e (List.mem_of_getElem? hc)).is.2.2
/-- A partial sum is no greater. -/
theorem sz_Tl {k : Nat} {f : Nat → List Nat → Int} (h : ∀ c r, sz (f c r) k) : ∀ (post pre : List Nat), sz (Tl f pre post) (k + post.length)
  | [], pre => by unfold Tl sz; exact Nat.pow_pos (by omega)
  | c :: post, pre => by
    unfold Tl
    have h1 : sz (if post.length % 2 = 1 then -(f c (pre ++ post)) else f c (pre ++ post)) (k + post.length) := by
      split
      · exact ((h c (pre ++ post)).mono (show k ≤ k + post.length by omega)).le (by rw [Int.natAbs_neg]; omega)
      · exact (h c _).mono (by omega)
    exact h1.add (sz_Tl h post (pre ++ [c]))

/-! ### the table of minors -/
/-- Of the sets below m the table holds their minors. -/
structure Tab (n : Nat) (cs : List PV) (nx m : Nat) (f : Nat → Int) : Prop where
  len : cs.length = 128
  at_ : ∀ q, q < m → ∃ i : Sid, newSid n nx i ∧ (cs.drop (q * 2)).take 2 = [.bool (decide (f q < 0)), .sl i 1 (u32s (dig (f q).natAbs))]
theorem newSid.mono {n nx nx' : Nat} {i : Sid} (h : newSid n nx i) (hn : nx ≤ nx') : newSid n nx' i := by
  rcases h with h | h
  · exact .inl h
  · exact .inr ⟨h.1, by omega⟩
theorem newSid.le {n m nx : Nat} {i : Sid} (h : newSid n nx i) (hn : m ≤ n) : newSid m nx i := by
  rcases h with h | h
  · exact .inl h
  · exact .inr ⟨by omega, h.2⟩
theorem Tab.mono {n : Nat} {cs : List PV} {nx nx' m : Nat} {f : Nat → Int} (h : Tab n cs nx m f) (hn : nx ≤ nx') : Tab n cs nx' m f :=
  ⟨h.len, fun q hq => let ⟨i, h1, h2⟩ := h.at_ q hq; ⟨i, h1.mono hn, h2⟩⟩
theorem drop_take_put {α : Type} (cs : List α) (a b : α) (s q : Nat) (hs : s * 2 + 2 ≤ cs.length) : ((cs.take (s * 2) ++ [a, b] ++ cs.drop (s * 2 + 2)).drop (q * 2)).take 2 = if q = s then [a, b] else (cs.drop (q * 2)).take 2 := by
  apply List.ext_getElem?
  intro i
  have hl : (cs.take (s * 2)).length = s * 2 := by simp; omega
  by_cases hi : i < 2
  · have hL : ((cs.take (s * 2) ++ [a, b] ++ cs.drop (s * 2 + 2)).drop (q * 2)).take 2 = ((cs.take (s * 2) ++ [a, b] ++ cs.drop (s * 2 + 2)).drop (q * 2)).take 2 := rfl
    rw [List.getElem?_take_of_lt hi, List.getElem?_drop]
    by_cases hq : q = s
    · subst hq
      rw [if_pos rfl, List.append_assoc, List.getElem?_append_right (by omega), hl, Nat.add_sub_cancel_left, List.getElem?_append_left (by simpa using hi)]
    · rw [if_neg hq, List.getElem?_take_of_lt hi, List.getElem?_drop]
      by_cases hlt : q < s
      · rw [List.append_assoc, List.getElem?_append_left (by omega), List.getElem?_take_of_lt (by omega)]
      · rw [List.getElem?_append_right (by simp; omega), List.getElem?_drop]
        congr 1
        simp; omega
  · rw [List.getElem?_eq_none (by simp; omega)]
    symm
    apply List.getElem?_eq_none
    split
    · simp; omega
    · simp; omega
theorem Tab.put {n : Nat} {cs : List PV} {nx m : Nat} {f : Nat → Int} (h : Tab n cs nx m f) (hm : m < 64) (i : Sid) (hi : newSid n nx i) (x : Int) (hx : f m = x) :
    Tab n (cs.take (m * 2) ++ [.bool (decide (x < 0)), .sl i 1 (u32s (dig x.natAbs))] ++ cs.drop (m * 2 + 2)) nx (m + 1) f := by
  have hl := h.len
  refine ⟨by simp; omega, fun q hq => ?_⟩
  rw [drop_take_put _ _ _ _ _ (by omega)]
  by_cases e : q = m
  · subst e; subst hx; exact ⟨i, hi, if_pos rfl⟩
  · obtain ⟨j, h1, h2⟩ := h.at_ q (by omega)
    exact ⟨j, h1, by rw [if_neg e]; exact h2⟩

def z73 : List PV := (List.replicate 64 [PV.bool false, .sl ⟨0, 0, 0⟩ 1 []]).flatten
theorem sz0 (k : Nat) : sz 0 k := Nat.pow_pos (by omega)
theorem z73_len : z73.length = 128 := by kernel_rfl
theorem tzero73 : tzero Tryz.prog 123 = some (.agg z73) := by kernel_rfl
theorem cells73 : (PV.agg z73).cells.all PV.isCell = true := by kernel_rfl
theorem alloc73z {s : St} {dr : Bool} {d : Option Tmp} {K : St → Prop} : PStepC Tryz.prog dr d (.alloc 123) K s ↔ okDst s d ∧ K ((s.pushBox z73).put d (.box s.boxes.length 0)) := by
  rw [PS_alloc tzero73 ⟨sized_agg _, cells73⟩, cells_agg]
theorem sz_Dt6 {rs : List (Nat → Int)} {cols : List Nat} (h : ∀ r, r ∈ rs → ∀ c, sz (r c) 66) (hr : rs.length ≤ 6) (hc : cols.length ≤ 6) : sz (Dt rs cols) 433 :=
  (sz_Dt (b := 66) rs cols h hc).mono (by omega)
theorem sz_num {n w : Nat} {M : List Rw} (hM : MxOk n w 66 M) (k : Nat) : ∀ f, f ∈ (M.map Rw.f).take k → ∀ c, sz (f c) 66 := fun f hf c => by
  obtain ⟨r', hr', rfl⟩ := List.mem_map.1 (List.mem_of_mem_take hf)
  exact sz_f (hM r' hr') c
theorem shift_count {m c n : Nat} (hm : m < 2 ^ n) (hc : c ≤ n) (hn : n ≤ 6) : (bl 6 (m / 2 ^ c)).length = (bh c n m).length := by
  have e : (bl 6 (m / 2 ^ c)).map (c + ·) = bh c (c + 6) m := by
    unfold bl bh
    rw [Nat.add_sub_cancel_left, List.range'_eq_map_range, List.filter_map]
    congr 1
    refine List.filter_congr fun i _ => ?_
    simp [Nat.testBit_div_two_pow, Nat.add_comm]
  have e2 : bh c (c + 6) m = bh c n m := by
    unfold bh
    rw [Nat.add_sub_cancel_left]
    have := List.range'_append_1 (s := c) (m := n - c) (n := 6 - (n - c))
    rw [show n - c + (6 - (n - c)) = 6 by omega] at this
    rw [← this, List.filter_append]
    have : (List.range' (c + (n - c)) (6 - (n - c))).filter (fun i => m.testBit i) = [] := by
      rw [List.filter_eq_nil_iff]
      intro q hq
      rw [List.mem_range'_1] at hq
      rw [Nat.testBit_lt_two_pow (Nat.lt_of_lt_of_le hm (Nat.pow_le_pow_right (by omega) (by omega)))]
      simp
    rw [this, List.append_nil]
  rw [← e2, ← e, List.length_map]
theorem newSid_leE {n n' : Nat} {i : Sid} (h : newSid n n' i) (hn : 0 < n') : i.f < n' := newSid_lt h hn
theorem get_lt {α : Type} {l : List α} {k : Nat} {x : α} (h : l[k]? = some x) : k < l.length := (List.getElem?_eq_some_iff.1 h).1
def detI (i ia : Sid) (M : List Rw) (l : List Nat) (n : Nat) (k : Nat) (s : St) : Prop :=
  ∃ (m nx : Nat) (B : List (List PV)) (b0 : PV) (b1 : PV) (cs : List PV), m + k = 2 ^ l.length ∧ 0 < m ∧ At s 86 ([b0, b1] :: cs :: B) nx [(0, .sl i 1 (M.map Rw.pv)), (1, .sl ia 1 (i64s l)), (4, .box 0 0), (5, .int .i64 l.length), (6, .box 1 0), (7, .int .i64 m)] ∧ n ≤ nx ∧ Tab n cs nx m (mn (M.map Rw.f) l l.length)
def detJ (i ia : Sid) (M : List Rw) (r : Rw) (l : List Nat) (cs : List PV) (n nx0 m : Nat) (F : Nat → List Nat → Int) (k : Nat) (s : St) : Prop :=
  ∃ (c nx ks : Nat) (B : List (List PV)) (b0 : PV) (b1 : PV) (i1 : Sid) (S : Int), c + k = l.length ∧ At s 86 ([b0, b1] :: cs :: B) nx [(0, .sl i 1 (M.map Rw.pv)), (1, .sl ia 1 (i64s l)), (4, .box 0 0), (5, .int .i64 l.length), (6, .box 1 0), (7, .int .i64 m), (8, r.pv), (9, .box (ks + 2) 0), (31, .int .i64 l.length), (32, .int .i64 c)] ∧
    nx0 ≤ nx ∧ B[ks]? = some [.bool (decide (S < 0)), .sl i1 1 (u32s (dig S.natAbs))] ∧ newSid n nx i1 ∧ sz S (502 + c) ∧ S + Tl F (bl c m) (bh c l.length m) = mn (M.map Rw.f) l l.length m
set_option maxHeartbeats 1000000 in
theorem det_call {n : Nat} (hn : 0 < n) (i ia : Sid) (M : List Rw) (l : List Nat) (w : Nat) (hM : MxOk n w 66 M) (hl : l.length ≤ 6) (hMl : M.length = l.length) (hc : ∀ c, c ∈ l → c < w) {Q : PV → Nat → List Nat → Prop}
    (hQ : ∀ (i : Sid) (n' : Nat), n ≤ n' → newSid n n' i → Q (W (decide (Dt (M.map Rw.f) l < 0)) i (dig (Dt (M.map Rw.f) l).natAbs)) n' []) : PCall Tryz.prog 91 [.sl i 1 (M.map Rw.pv), .sl ia 1 (i64s l)] n Q := by
  have hf := mn_full (rs := M.map Rw.f) (cols := l) (n := l.length) (by simpa using hMl) rfl
  obtain ⟨N, hN⟩ : ∃ N, N = 2 ^ l.length := ⟨_, rfl⟩
  have hN1 : 1 ≤ N := by rw [hN]; exact Nat.one_le_two_pow
  have hN2 : N ≤ 64 := by rw [hN]; exact Nat.pow_le_pow_right (by omega) hl
  have hshl : binPV Tryz.prog .shl 3 (.int .i64 1) (.int .i64 (l.length : Int)) = some (.int .i64 (N : Nat)) := by rw [hN]; exact shl_one_i64 (by omega)
  refine of91 hn ?_
  simp (disch := omega) [-alloc123, alloc73z, c91]
  refine CallK.of (by simp) (Of_call hn 1 (by omega) (by omega) fun i1 n1 g1 d1 => ?_)
  simp (disch := omega) [z73_len, hMl]
  refine GO_loopN (detI i ia M l n) (N - 1) ⟨1, n1, [], .bool false, .sl ⟨0, 0, 0⟩ 1 [], _, by omega, by omega, by simp [At, hMl], g1, Tab.put (cs := z73) (m := 0) ⟨z73_len, fun q hq => by omega⟩ (by omega) i1 d1 1 (mn_zero _ _ _)⟩ ?_
  rintro k s ⟨m, nx, B, b0, b1, cs, hm, hm0, ⟨e1, e2, e3, e4, e5⟩, hnx, hT⟩
  simp at e5
  obtain ⟨e5, e6, e7, e8, e9, e10⟩ := e5
  by_cases hk : m < N
  · have hbn := bl_ne (n := l.length) (by omega) (show m ≠ 0 by omega)
    have hbl := bl_le l.length m
    obtain ⟨p, hp⟩ : ∃ p, (bl l.length m).length = p + 1 := ⟨_, (Nat.succ_pred_eq_of_pos hbn).symm⟩
    have hb6 : bl 6 m = bl l.length m := by
      rw [bl_bh (show l.length ≤ 6 from hl), show bh l.length 6 m = [] from ?_, List.append_nil]
      unfold bh
      rw [List.filter_eq_nil_iff]
      intro q hq
      rw [List.mem_range'_1] at hq
      rw [Nat.testBit_lt_two_pow (Nat.lt_of_lt_of_le (show m < 2 ^ l.length by omega) (Nat.pow_le_pow_right (by omega) hq.1))]
      simp
    simp (disch := omega) [-binPV_shl, hshl, c91L1, e1, e2, e3, e4, e5, e6, e7, e8, e9, e10, hk]
    refine CallK.of (by simp) (OnesCount_call (by omega) m (by omega) ?_)
    rw [hb6, hp]
    have hpM : p < M.length := by omega
    have hrM : M[p]? = some M[p] := List.getElem?_eq_getElem hpM
    obtain ⟨r, hr0⟩ : ∃ r, r = M[p] := ⟨_, rfl⟩
    have hrok : RwOk n w 66 r := hM r (by rw [hr0]; exact List.getElem_mem _)
    have hrf : (M.map Rw.f)[p]? = some r.f := by simp [hrM, hr0]
    have hsum := mn_sum (cols := l) hp hrf
    obtain ⟨F, hF⟩ : ∃ F, F = mnF (M.map Rw.f) l p r.f := ⟨_, rfl⟩
    rw [← hF] at hsum
    have hsz : ∀ q, sz (mn (M.map Rw.f) l l.length q) 433 := fun q => by
      have := bl_le l.length q
      exact sz_Dt6 (sz_num hM _) (by simp; omega) (by simp; omega)
    have hszF : ∀ c rest, rest.length ≤ 6 → sz (F c rest) 499 := fun c rest hrl => by
      rw [hF]
      have h1 := (sz_f hrok (l.getD c 0)).mul (sz_Dt6 (sz_num hM p) (cols := rest.map fun j => l.getD j 0) (by simp; omega) (by simpa using hrl))
      exact h1.mono (by omega)
    simp (disch := omega) [e1, e2, e3, e4, e5, e6, e7, e8, e9, e10, hpM, ← hr0]
    refine GO_loopN (detJ i ia M r l cs n nx m F) l.length ⟨0, nx, B.length, B ++ [[PV.bool false, PV.sl ⟨0, 0, 0⟩ 1 []]], b0, b1, ⟨0, 0, 0⟩, 0, by omega, by simp [At, e1, e2, e3, e4, e5, e6, e7, e8, e9, e10], Nat.le_refl _, by simp [dig_zero], .inl rfl, sz0 _, by
      rw [hsum, bh_zero, bl_none]; simp⟩ ?_
    rintro k2 s2 ⟨c, nx2, ks, B2, c0, c1, i2, S, hck, ⟨f1, f2, f3, f4, f5⟩, hnx2, hB, hi2, hSs, hS⟩
    simp at f5
    obtain ⟨f5, f6, f7, f8, f9, f10, f11, f12, f13, f14⟩ := f5
    obtain ⟨hks, hBg⟩ := List.getElem?_eq_some_iff.1 hB
    by_cases hk2 : c < l.length
    · obtain ⟨q, hq1, hq2⟩ := bit_get (P := Tryz.prog) (P2 := Tryz.prog) (t := 3) (t2 := 3) (a := m) (i := c) (by omega) (by omega)
      by_cases hb : m.testBit c = true
      · simp only [hb] at hq2
        obtain ⟨x, hx0⟩ : ∃ x, x = l[c] := ⟨_, rfl⟩
        have hxw : x < r.es.length := by rw [hrok.w]; exact hc x (by rw [hx0]; exact List.getElem_mem _)
        obtain ⟨e, he0⟩ : ∃ e, e = r.es[x] := ⟨_, rfl⟩
        have heok : EOk n 66 e := hrok.e e (by rw [he0]; exact List.getElem_mem _)
        obtain ⟨en, el, esz⟩ := heok.is
        have hrx : r.f (l.getD c 0) = e.num := by
          have : l.getD c 0 = x := by simp [List.getD, hk2, hx0]
          rw [this]; simp [Rw.f, hxw, he0]
        obtain ⟨P, hP⟩ : ∃ P, P = 2 ^ c := ⟨_, rfl⟩
        have hPl : P ≤ 64 := by rw [hP]; exact Nat.pow_le_pow_right (n := 2) (by omega) (show c ≤ 6 by omega)
        have hP1 : binPV Tryz.prog .shl 3 (.int .i64 1) (.int .i64 (c : Int)) = some (.int .i64 (P : Nat)) := by rw [hP]; exact shl_one_i64 (by omega)
        obtain ⟨t, ht1, ht2, ht3⟩ := andNot_i64 (P := Tryz.prog) (t := 3) (a := m) (b := P) (by omega) (by omega)
        have ht3 : ∀ i, t.testBit i = (m.testBit i && !decide (i = c)) := fun i => by
          rw [ht3 i, hP, Nat.testBit_two_pow]
          by_cases h : c = i
          · simp [h]
          · have : ¬ i = c := fun e => h e.symm
            simp [h, this]
        have htm : t < m := by
          rcases Nat.lt_or_ge t m with h | h
          · exact h
          · have := ht3 c
            rw [Nat.le_antisymm ht2 h, hb] at this
            simp at this
        obtain ⟨it, hit, hct⟩ := hT.at_ t htm
        have hcl := hT.len
        have hFv := mn_less (rs := M.map Rw.f) (cols := l) (r := r.f) hp hk2 hb ht3
        rw [← hF, hrx] at hFv
        obtain ⟨y, hy⟩ : ∃ y, y = mn (M.map Rw.f) l l.length t := ⟨_, rfl⟩
        have hysz : sz y 433 := by rw [hy]; exact hsz t
        rw [← hy] at hFv hct
        have hif : it.f < nx2 := by rcases hit with rfl | h; exact (by show 0 < nx2; omega); exact Nat.lt_of_lt_of_le h.2 hnx2
        have hef := heok.f
        simp (disch := omega) [-binPV_shr, -binPV_and, -binPV_shl, -binPV_andNot, hq1, hq2, hP1, ht1, c91L0, f1, f2, f3, f4, f5, f6, f7, f8, f9, f10, f11, f12, f13, f14, hk2, ← hx0, hxw, ← he0, show t < 64 by omega, hcl, show t * 2 + 2 ≤ 128 by omega, hct, en, el]
        refine CallK.of (by simp) (Mul_Z (by omega) e.num y (e.num * y) e.i it (by omega) hif 66 433 esz hysz (by omega) rfl fun i3 n3 g3 d3 => ?_)
        obtain ⟨z, hz⟩ : ∃ z, z = e.num * y := ⟨_, rfl⟩
        have hzsz : sz z 499 := by rw [hz]; exact (esz.mul hysz).mono (by omega)
        rw [← hz] at hFv ⊢
        obtain ⟨q2, hq20⟩ : ∃ q2, q2 = m / 2 ^ (c + 1) := ⟨_, rfl⟩
        have hq2l : q2 < 64 := by rw [hq20]; exact Nat.lt_of_le_of_lt (Nat.div_le_self _ _) (by omega)
        have hs2 : binPV Tryz.prog .shr 3 (.int .i64 (m : Int)) (.int .i64 ((c : Int) + 1)) = some (.int .i64 (q2 : Nat)) := by
          rw [hq20]; exact shr_nat (b := c + 1) (by simp; omega)
        have hsc := shift_count (m := m) (c := c + 1) (n := l.length) (by omega) (by omega) hl
        rw [← hq20] at hsc
        simp (disch := omega) [-binPV_shr, hs2, g3, f1, f2, f3, f4, f5, f6, f7, f8, f9, f10, f11, f12, f13, f14, sepP]
        refine CallK.of (by simp) (OnesCount_call (by omega) q2 (by omega) ?_)
        rw [hsc]
        obtain ⟨L, hL⟩ : ∃ L, L = (bh (c + 1) l.length m).length := ⟨_, rfl⟩
        obtain ⟨d, hd⟩ : ∃ d, d = L % 2 := ⟨_, rfl⟩
        rw [← hL]
        have hrem : ((L : Int).tmod 2) = (d : Int) := by rw [hd]; exact (Int.ofNat_tmod L 2).symm
        have hTl := bh_step hk2 m
        rw [if_pos hb] at hTl
        rw [hTl] at hS
        unfold Tl at hS
        rw [hFv, ← hL, ← hd, show bl c m ++ [c] = bl (c + 1) m from by rw [bl_succ, if_pos hb]] at hS
        have hzs : sz z (502 + c) := hzsz.mono (by omega)
        have hd2 : d < 2 := by omega
        by_cases hd1 : d = 1
        · simp (disch := omega) [hrem, hd1, f1, f2, f3, f4, f5, f6, f7, f8, f9, f10, f11, f12, f13, f14, hks, hBg]
          refine CallK.of (by simp) (Sub_Z (by omega) S z (S - z) i2 i3 (502 + c) hSs hzs (by omega) rfl fun i4 n4 g4 d4 => ?_)
          simp (disch := omega) [g3, g4, f1, f2, f3, f4, f5, f6, f7, f8, f9, f10, f11, f12, f13, f14, hks, hBg]
          have hset := ap_set_lt B2 [[PV.bool (decide (z < 0)), PV.sl i3 1 (u32s (dig z.natAbs))]] ks [PV.bool (decide (S - z < 0)), PV.sl i4 1 (u32s (dig (S - z).natAbs))] hks
          refine ⟨k2 - 1, by omega, c + 1, n4, ks, B2.set ks [PV.bool (decide (S - z < 0)), PV.sl i4 1 (u32s (dig (S - z).natAbs))] ++ [[PV.bool (decide (z < 0)), PV.sl i3 1 (u32s (dig z.natAbs))]], c0, c1, i4, S - z, by omega, by simp [At, hset, f1, f2, f3, f4, f5, f6, f7, f8, f9, f10, f11, f12, f13, f14], by omega, by simp [hks], d4.le (by omega), hSs.sub hzs, ?_⟩
          rw [if_pos hd1] at hS
          omega
        · have hd0 : d = 0 := by omega
          simp (disch := omega) [hrem, hd0, f1, f2, f3, f4, f5, f6, f7, f8, f9, f10, f11, f12, f13, f14, hks, hBg]
          refine CallK.of (by simp) (Add_Z (by omega) S z (S + z) i2 i3 (502 + c) hSs hzs (by omega) rfl fun i4 n4 g4 d4 => ?_)
          simp (disch := omega) [g3, g4, f1, f2, f3, f4, f5, f6, f7, f8, f9, f10, f11, f12, f13, f14, hks, hBg]
          have hset := ap_set_lt B2 [[PV.bool (decide (z < 0)), PV.sl i3 1 (u32s (dig z.natAbs))]] ks [PV.bool (decide (S + z < 0)), PV.sl i4 1 (u32s (dig (S + z).natAbs))] hks
          refine ⟨k2 - 1, by omega, c + 1, n4, ks, B2.set ks [PV.bool (decide (S + z < 0)), PV.sl i4 1 (u32s (dig (S + z).natAbs))] ++ [[PV.bool (decide (z < 0)), PV.sl i3 1 (u32s (dig z.natAbs))]], c0, c1, i4, S + z, by omega, by simp [At, hset, f1, f2, f3, f4, f5, f6, f7, f8, f9, f10, f11, f12, f13, f14], by omega, by simp [hks], d4.le (by omega), hSs.add hzs, ?_⟩
          rw [if_neg hd1] at hS
          omega
      · simp only [hb] at hq2
        simp (disch := omega) [-binPV_shr, -binPV_and, hq1, hq2, c91L0, f1, f2, f3, f4, f5, f6, f7, f8, f9, f10, f11, f12, f13, f14, hk2]
        refine ⟨k2 - 1, by omega, c + 1, nx2, ks, B2, c0, c1, i2, S, by omega, by simp [At, f1, f2, f3, f4, f5, f6, f7, f8, f9, f10, f11, f12, f13, f14], hnx2, hB, hi2, hSs.mono (by omega), ?_⟩
        rw [bl_succ, if_neg hb, List.append_nil, ← hS, bh_step hk2, if_neg hb]
    · have hcl : c = l.length := by omega
      subst hcl
      have hm64 : m < 64 := by omega
      have hcl := hT.len
      have hSm : S = mn (M.map Rw.f) l l.length m := by rw [← hS, bh_nil]; simp [Tl]
      simp (disch := omega) [c91L0, c91R0, c91R1, f1, f2, f3, f4, f5, f6, f7, f8, f9, f10, f11, f12, f13, f14, hk2, hBg, hm64, hcl, show m * 2 + 2 ≤ 128 by omega]
      refine ⟨k - 1, by omega, m + 1, nx2, B2, c0, c1, _, by omega, by omega, ?_, by omega, (hT.mono (nx' := nx2) hnx2).put hm64 i2 hi2 S hSm.symm⟩
      simp [At, f1, f2, f3, f4, f5, f6, f7, f8, f9, f10, f11, f12, f13, f14]
  · have hmN : m = N := by omega
    subst hmN
    have hcl := hT.len
    obtain ⟨i', hi', hcs⟩ := hT.at_ (m - 1) (by omega)
    have hfm : mn (M.map Rw.f) l l.length (m - 1) = Dt (M.map Rw.f) l := by rw [hN]; exact hf
    rw [hfm] at hcs
    simpa (disch := omega) [-binPV_shl, hshl, c91L1, c91R2, e1, e2, e3, e4, e5, e6, e7, e8, e9, e10, show m - 1 < 64 by omega, hcl, show (m - 1) * 2 + 2 ≤ 128 by omega, hcs, hnx] using hQ i' nx hnx hi'
end Go.Proofs.YtphndngifjgeoaaGreatDoor

/-! ExE: Whether rows may be: the program's answer and the document's, by value. -/
set_option linter.unusedVariables false
set_option linter.unusedSimpArgs false
namespace Go.Proofs.YtphndngifjgeoaaGreatDoor
open Go.Proofs

def rowB (w : Nat) (r : Rw) : Bool := decide (r.es.length ≤ 6) && decide (r.es.length = w)
def entB (e : Ent) : Bool := rightW e.n e.l
def rightM (M : List Rw) : Bool := M.all fun r => r.es.all entB
def lngE (e : Ent) : Bool := decide (80 < e.l.length)
def lngM (M : List Rw) : Bool := M.any fun r => r.es.any lngE
def chk (M : List Rw) : Int := if 6 < M.length then 3 else if M.all (rowB (widthR M)) = true then (if rightM M = true then (if lngM M = true then 2 else 0) else 1) else 3
/-- Sizes that there can be. -/
def Fits (M : List Rw) : Prop := M.length < 35184372088800 ∧ ∀ r, r ∈ M → r.es.length < 35184372088800 ∧ ∀ e, e ∈ r.es → e.l.length < 35184372088800 ∧ Lim e.l
theorem all_take {α : Type} {l : List α} {p : α → Bool} {j : Nat} (hj : j < l.length) (h : (l.take j).all p = true) (hx : p l[j] = true) : (l.take (j + 1)).all p = true := by
  rw [List.take_add_one, List.getElem?_eq_getElem hj, List.all_append, h]; simp [hx]
theorem all_bad {α : Type} {l : List α} {p : α → Bool} {j : Nat} (hj : j < l.length) (hx : ¬ p l[j] = true) : ¬ l.all p = true := fun h => hx (List.all_eq_true.1 h _ (List.getElem_mem hj))
theorem any_take {α : Type} {l : List α} {p : α → Bool} {j : Nat} (hj : j < l.length) : (l.take (j + 1)).any p = ((l.take j).any p || p l[j]) := by
  rw [List.take_add_one, List.getElem?_eq_getElem hj, List.any_append]; simp
theorem width_get {M : List Rw} (h : 0 < M.length) : M[0].es.length = widthR M := by
  cases M with
  | nil => simp at h
  | cons r M => rfl
theorem chk_many {M : List Rw} (h : 6 < M.length) : chk M = 3 := by unfold chk; rw [if_pos h]
theorem chk_row {M : List Rw} (h : ¬ M.all (rowB (widthR M)) = true) : chk M = 3 := by
  unfold chk; rw [if_neg h]; split <;> rfl
theorem chk_right {M : List Rw} (h0 : ¬ 6 < M.length) (h : M.all (rowB (widthR M)) = true) (h1 : ¬ rightM M = true) : chk M = 1 := by unfold chk; rw [if_neg h0, if_pos h, if_neg h1]
theorem chk_end {M : List Rw} (h0 : ¬ 6 < M.length) (h : M.all (rowB (widthR M)) = true) (h1 : rightM M = true) : chk M = if lngM M = true then 2 else 0 := by unfold chk; rw [if_neg h0, if_pos h, if_pos h1]

def checkI (i : Sid) (M : List Rw) (n : Nat) (k : Nat) (s : St) : Prop :=
  ∃ j : Nat, j + k = M.length ∧ At s 57 [] n [(0, .sl i 1 (M.map Rw.pv)), (13, .sl i 1 (M.map Rw.pv)), (14, .int .i64 M.length), (15, .int .i64 j)] ∧ (M.take j).all (rowB (widthR M)) = true
def checkR (i : Sid) (M : List Rw) (n : Nat) (k : Nat) (s : St) : Prop :=
  ∃ (j : Nat) (B : List (List PV)), j + k = M.length ∧ At s 57 B n [(0, .sl i 1 (M.map Rw.pv)), (32, .sl i 1 (M.map Rw.pv)), (33, .int .i64 M.length), (34, .int .i64 j), (5, .bool (lngM (M.take j)))] ∧ rightM (M.take j) = true
def checkE (i : Sid) (M : List Rw) (r : Rw) (n j : Nat) (k : Nat) (s : St) : Prop :=
  ∃ (c : Nat) (B : List (List PV)), c + k = r.es.length ∧ At s 57 B n [(0, .sl i 1 (M.map Rw.pv)), (32, .sl i 1 (M.map Rw.pv)), (33, .int .i64 M.length), (34, .int .i64 j), (5, .bool (lngM (M.take j) || (r.es.take c).any lngE)), (38, r.pv), (39, .int .i64 r.es.length), (40, .int .i64 c)] ∧ (r.es.take c).all entB = true
theorem checkR_loop {n : Nat} (hn : 0 < n) (i : Sid) (M : List Rw) (hM : Fits M) (h0 : ¬ 6 < M.length) (hr : M.all (rowB (widthR M)) = true) {Q : PV → Nat → List Nat → Prop}
    (hQ : Q (.int .i64 (chk M)) n []) (k : Nat) (s : St) (h : checkR i M n k s) : GO Tryz.prog (.loop c69L2)
    (PExit.inBlock 2 (PExit.then (GO Tryz.prog c69R1 (fin Tryz.prog [.tmp 2] n Q)) (fin Tryz.prog [.tmp 2] n Q))) s := by
  obtain ⟨hM, hM2⟩ := hM
  refine GO_loopN (checkR i M n) k h ?_
  clear h s k
  rintro k s ⟨j, B, hj, ⟨e1, e2, e3, e4, e5⟩, hrt⟩
  simp at e5
  obtain ⟨e5, e6, e7, e8, e9⟩ := e5
  by_cases hk : j < M.length
  · obtain ⟨r, hr0⟩ : ∃ r, r = M[j] := ⟨_, rfl⟩
    obtain ⟨q1, q2⟩ := hM2 r (by rw [hr0]; exact List.getElem_mem _)
    simp (disch := omega) [c69L2, e1, e2, e3, e4, e5, e6, e7, e8, e9, hk, ← hr0]
    refine GO_loopN (checkE i M r n j) r.es.length ⟨0, B, by omega, by simp [At, e1, e2, e3, e4, e5, e6, e7, e8, e9], by simp⟩ ?_
    rintro k2 s2 ⟨c, B2, hc, ⟨f1, f2, f3, f4, f5⟩, hre⟩
    simp at f5
    obtain ⟨f5, f6, f7, f8, f9, f10, f11, f12⟩ := f5
    by_cases hk2 : c < r.es.length
    · obtain ⟨e, he0⟩ : ∃ e, e = r.es[c] := ⟨_, rfl⟩
      obtain ⟨p1, p2⟩ := q2 e (by rw [he0]; exact List.getElem_mem _)
      simp (disch := omega) [c69L1, f1, f2, f3, f4, f5, f6, f7, f8, f9, f10, f11, f12, hk2, ← he0]
      refine CallK.of (by simp) (Check_call hn e.n e.i e.l (by omega) ?_)
      by_cases hb : rightW e.n e.l = true
      · have hal := all_take (p := entB) hk2 hre (by rw [← he0]; exact hb)
        have han := any_take (p := lngE) hk2
        rw [← he0] at han
        by_cases hlg : (lngM (M.take j) || (r.es.take c).any lngE) = true
        · rw [hlg] at f9
          simp (disch := omega) [hb, f1, f2, f3, f4, f5, f6, f7, f8, f9, f10, f11, f12]
          exact ⟨k2 - 1, by omega, c + 1, B2 ++ [[PV.bool e.n, PV.sl e.i 1 (u32s e.l)]], by omega, by simp [At, f1, f2, f3, f4, f5, f6, f7, f8, f9, f10, f11, f12, han, ← Bool.or_assoc, hlg], hal⟩
        · rw [Bool.not_eq_true] at hlg
          rw [hlg] at f9
          simp (disch := omega) [hb, f1, f2, f3, f4, f5, f6, f7, f8, f9, f10, f11, f12]
          exact ⟨k2 - 1, by omega, c + 1, B2 ++ [[PV.bool e.n, PV.sl e.i 1 (u32s e.l)]], by omega, by simp [At, f1, f2, f3, f4, f5, f6, f7, f8, f9, f10, f11, f12, han, ← Bool.or_assoc, hlg, lngE], hal⟩
      · rw [chk_right h0 hr (all_bad hk (by rw [← hr0]; exact all_bad hk2 (by rw [← he0]; exact hb)))] at hQ
        simpa (disch := omega) [hb, f1, f2, f3, f4, f5, f6, f7, f8, f9, f10, f11, f12] using hQ
    · have hcl : c = r.es.length := by omega
      subst hcl
      rw [List.take_length] at hre f9
      have han : lngM (M.take (j + 1)) = (lngM (M.take j) || r.es.any lngE) := by unfold lngM; rw [any_take hk, ← hr0]
      simp (disch := omega) [c69L1, c69R0, f1, f2, f3, f4, f5, f6, f7, f8, f9, f10, f11, f12, hk2]
      exact ⟨k - 1, by omega, j + 1, B2, by omega, by simp [At, f1, f2, f3, f4, f5, f6, f7, f8, f9, f10, f11, f12, han], all_take hk hrt (by rw [← hr0]; exact hre)⟩
  · have hjM : j = M.length := by omega
    subst hjM
    rw [List.take_length] at hrt e9
    rw [chk_end h0 hr hrt] at hQ
    cases hlg : lngM M
    · rw [hlg] at e9 hQ
      simpa (disch := omega) [c69L2, c69R1, e1, e2, e3, e4, e5, e6, e7, e8, e9] using hQ
    · rw [hlg] at e9 hQ
      simpa (disch := omega) [c69L2, c69R1, e1, e2, e3, e4, e5, e6, e7, e8, e9] using hQ
theorem CheckM_call {n : Nat} (hn : 0 < n) (i : Sid) (M : List Rw) (hM' : Fits M) {Q : PV → Nat → List Nat → Prop}
    (hQ : Q (.int .i64 (chk M)) n []) : PCall Tryz.prog 69 [.sl i 1 (M.map Rw.pv)] n Q := by
  obtain ⟨hM, hM2⟩ := hM'
  refine of69 hn ?_
  by_cases h0 : 6 < M.length
  · rw [chk_many h0] at hQ
    simpa (disch := omega) [c69, h0] using hQ
  simp (disch := omega) [c69, h0]
  refine GO_loopN (checkI i M n) M.length ⟨0, by omega, by simp [At], by simp⟩ ?_
  rintro k s ⟨j, hj, ⟨e1, e2, e3, e4, e5⟩, hr⟩
  simp at e5
  obtain ⟨e5, e6, e7, e8⟩ := e5
  by_cases hk : j < M.length
  · obtain ⟨r, hr0⟩ : ∃ r, r = M[j] := ⟨_, rfl⟩
    obtain ⟨q1, q2⟩ := hM2 r (by rw [hr0]; exact List.getElem_mem _)
    have hw := width_get (M := M) (by omega)
    have hM0 : 0 < M.length := by omega
    obtain ⟨L0, hL0⟩ : ∃ L0, L0 = widthR M := ⟨_, rfl⟩
    have hwl : M[0].es.length < 35184372088800 := (hM2 _ (List.getElem_mem _)).1
    rw [← hL0] at hw
    rw [hw] at hwl
    by_cases h1 : 6 < r.es.length
    · rw [chk_row (all_bad hk (by rw [← hr0]; simp [rowB]; omega))] at hQ
      simpa (disch := omega) [c69L0, e1, e2, e3, e4, e5, e6, e7, e8, hk, ← hr0, h1] using hQ
    · by_cases h2 : r.es.length = L0
      · have hne : binPV Tryz.prog .neq 3 (.int .i64 (r.es.length : Int)) (.int .i64 (L0 : Int)) = some (.bool false) := by rw [binPV_neq, h2]; simp
        simp (disch := omega) [-binPV_neq, c69L0, e1, e2, e3, e4, e5, e6, e7, e8, hk, ← hr0, h1, hM0, hw, hne]
        exact ⟨k - 1, by omega, j + 1, by omega, by simp [At, e1, e2, e3, e4, e5, e6, e7, e8], all_take hk hr (by rw [← hr0]; simp [rowB]; omega)⟩
      · rw [chk_row (all_bad hk (by rw [← hr0]; simp [rowB]; omega))] at hQ
        simpa (disch := omega) [c69L0, e1, e2, e3, e4, e5, e6, e7, e8, hk, ← hr0, h1, hM0, hw, h2] using hQ
  · have hjM : j = M.length := by omega
    subst hjM
    rw [List.take_length] at hr
    simp (disch := omega) [c69L0, c69R2, e1, e2, e3, e4, e5, e6, e7, e8]
    exact checkR_loop hn i M ⟨hM, hM2⟩ h0 hr hQ M.length _ ⟨0, [], by omega, by simp [At, e1, e2, e3, e4, e5, e6, e7, e8, lngM], by simp [rightM]⟩
end Go.Proofs.YtphndngifjgeoaaGreatDoor

/-! ExF: Whether rows may be, and are short: the document's answers, by value. -/
set_option linter.unusedVariables false
set_option linter.unusedSimpArgs false
namespace Go.Proofs.YtphndngifjgeoaaGreatDoor
open Go.Proofs

def RcheckI (i : Sid) (M : List Rw) (n : Nat) (k : Nat) (s : St) : Prop :=
  ∃ j : Nat, j + k = M.length ∧ At s 72 [] n [(0, .sl i 1 (M.map Rw.pv)), (3, .int .i64 j)] ∧ (M.take j).all (rowB (widthR M)) = true
def RcheckR (i : Sid) (M : List Rw) (n : Nat) (k : Nat) (s : St) : Prop :=
  ∃ (j : Nat), j + k = M.length ∧ At s 72 [] n [(0, .sl i 1 (M.map Rw.pv)), (5, .int .i64 j), (4, .bool (lngM (M.take j)))] ∧ rightM (M.take j) = true
def RcheckE (i : Sid) (M : List Rw) (r : Rw) (n j : Nat) (k : Nat) (s : St) : Prop :=
  ∃ (c : Nat), c + k = r.es.length ∧ At s 72 [] n [(0, .sl i 1 (M.map Rw.pv)), (5, .int .i64 j), (4, .bool (lngM (M.take j) || (r.es.take c).any lngE)), (6, .int .i64 c)] ∧ (r.es.take c).all entB = true
/-! ### are all short? -/
def shortE (m : Nat) (e : Ent) : Bool := !(decide (m < e.l.length) && rightW e.n e.l)
def lightM (m : Nat) (M : List Rw) : Bool := M.all fun r => r.es.all (shortE m)
def LightI (i : Sid) (M : List Rw) (m n : Nat) (k : Nat) (s : St) : Prop :=
  ∃ (j : Nat), j + k = M.length ∧ At s 43 [] n [(0, .sl i 1 (M.map Rw.pv)), (1, .int .i64 m), (5, .int .i64 j)] ∧ lightM m (M.take j) = true
def LightE (i : Sid) (M : List Rw) (r : Rw) (m n j : Nat) (k : Nat) (s : St) : Prop :=
  ∃ (c : Nat), c + k = r.es.length ∧ At s 43 [] n [(0, .sl i 1 (M.map Rw.pv)), (1, .int .i64 m), (5, .int .i64 j), (6, .int .i64 c)] ∧ (r.es.take c).all (shortE m) = true
end Go.Proofs.YtphndngifjgeoaaGreatDoor

/-! ExG: Determinants and minors, the program's, by value. -/
set_option linter.unusedVariables false
set_option linter.unusedSimpArgs false
namespace Go.Proofs.YtphndngifjgeoaaGreatDoor
open Go.Proofs

def Sids (n : Nat) (M : List Rw) : Prop := ∀ r, r ∈ M → r.i.f < n ∧ ∀ e, e ∈ r.es → e.i.f < n
theorem Sids.mono {n n' : Nat} {M : List Rw} (h : Sids n M) (hn : n ≤ n') : Sids n' M := fun r hr => ⟨Nat.lt_of_lt_of_le (h r hr).1 hn, fun e he => Nat.lt_of_lt_of_le ((h r hr).2 e he) hn⟩
theorem chk_ok {M : List Rw} (h : chk M = 0) : M.length ≤ 6 ∧ M.all (rowB (widthR M)) = true ∧ rightM M = true ∧ lngM M = false := by
  unfold chk at h
  split at h
  · omega
  · split at h
    · split at h
      · split at h
        · omega
        · rename_i h1 h2 h3 h4
          exact ⟨by omega, h2, h3, by simpa using h4⟩
      · omega
    · omega
theorem mx_of {n m : Nat} {M : List Rw} (h : chk M = 0) (hl : lightM m M = true) (hf : Fits M) (hs : Sids n M) : MxOk n (widthR M) m M ∧ M.length ≤ 6 ∧ widthR M ≤ 6 := by
  obtain ⟨h1, h2, h3, _⟩ := chk_ok h
  refine ⟨fun r hr => ?_, h1, ?_⟩
  · have a := List.all_eq_true.1 h2 r hr
    have b := List.all_eq_true.1 (List.all_eq_true.1 h3 r hr)
    have c := List.all_eq_true.1 (List.all_eq_true.1 hl r hr)
    simp only [rowB, Bool.and_eq_true, decide_eq_true_eq] at a
    refine ⟨(hs r hr).1, a.2, fun e he => ⟨(hs r hr).2 e he, b e he, ((hf.2 r hr).2 e he).2, ?_⟩⟩
    have hb := b e he
    have hc := c e he
    unfold entB at hb
    simp only [shortE, hb, Bool.and_true, Bool.not_eq_true', decide_eq_false_iff_not] at hc
    omega
  · cases M with
    | nil => simp [widthR]
    | cons r M =>
      have a := List.all_eq_true.1 h2 r (by simp)
      simp only [rowB, Bool.and_eq_true, decide_eq_true_eq] at a
      exact a.1
theorem chk_lt (M : List Rw) : 0 ≤ chk M ∧ chk M ≤ 3 := by
  unfold chk
  split
  · omega
  · split
    · split
      · split <;> omega
      · omega
    · omega

theorem width_at {M : List Rw} {r : Rw} (h : M[0]? = some r) : r.es.length = widthR M := by
  cases M with
  | nil => simp at h
  | cons q M => simp at h; rw [h]; rfl
/-! ### minors -/
theorem width_lt {M : List Rw} (hM : Fits M) : widthR M < 35184372088800 := by
  cases M with
  | nil => simp [widthR]
  | cons r M => exact (hM.2 r (by simp)).1
theorem riseB_lt {l : List Int} {w : Nat} (h : riseB l w = true) : ∀ x, x ∈ l → 0 ≤ x ∧ x < w := by
  intro x hx
  obtain ⟨j, hj, rfl⟩ := List.mem_iff_getElem.1 hx
  have := List.all_eq_true.1 h j (by simpa using hj)
  have e : l.getD j 0 = l[j] := by simp [List.getD, hj]
  unfold riseAt at this
  rw [e] at this
  simp only [Bool.and_eq_true, decide_eq_true_eq] at this
  omega
theorem riseB_len {l : List Int} {w : Nat} (h : riseB l w = true) : l.length ≤ w := by
  have key : ∀ j, j < l.length → (j : Int) ≤ l.getD j 0 := by
    intro j
    induction j with
    | zero =>
      intro hj
      have := List.all_eq_true.1 h 0 (by simpa using hj)
      unfold riseAt at this
      simp only [Bool.and_eq_true, decide_eq_true_eq] at this
      exact this.1.1
    | succ j ih =>
      intro hj
      have := List.all_eq_true.1 h (j + 1) (by simpa using hj)
      unfold riseAt at this
      simp only [Bool.and_eq_true, Bool.or_eq_true, decide_eq_true_eq, Nat.add_sub_cancel] at this
      have := ih (by omega)
      omega
  rcases Nat.eq_zero_or_pos l.length with e | e
  · omega
  · have h1 := key (l.length - 1) (by omega)
    have h2 := (riseB_lt h l[l.length - 1] (List.getElem_mem _)).2
    have e2 : l.getD (l.length - 1) 0 = l[l.length - 1] := by simp [List.getD, show l.length - 1 < l.length by omega]
    rw [e2] at h1
    omega
def minE (M : List Rw) (a c : List Int) : Int := if riseB a M.length = true ∧ riseB c (widthR M) = true then (if a.length = c.length then 0 else 3) else 1
def nats (l : List Int) : List Nat := l.map Int.toNat
end Go.Proofs.YtphndngifjgeoaaGreatDoor

/-! ExH: The document's determinant, by value. -/
set_option linter.unusedVariables false
set_option linter.unusedSimpArgs false
namespace Go.Proofs.YtphndngifjgeoaaGreatDoor
open Go.Proofs

theorem RMul_Z {n : Nat} (hn : 0 < n) (x y z : Int) (ia ib : Sid) (k m : Nat) (hx : sz x k) (hy : sz y m) (hk : k ≤ 1000000 ∧ m ≤ 1000000) (hz : x * y = z) {Q : PV → Nat → List Nat → Prop}
    (hQ : ∀ (i : Sid) (n' : Nat), n ≤ n' → newSid n n' i → Q (W (decide (z < 0)) i (dig z.natAbs)) n' []) : PCall Tryz.prog 56 [W (decide (x < 0)) ia (dig x.natAbs), W (decide (y < 0)) ib (dig y.natAbs)] n Q := by
  have h1 := hx.len
  have h2 := hy.len
  exact refMul_call hn _ _ ia ib _ _ (by omega) (by omega) (Lim.dig _) (Lim.dig _) z (by rw [numW_dig, numW_dig]; exact hz) hQ
theorem RAdd_Z {n : Nat} (hn : 0 < n) (x y z : Int) (ia ib : Sid) (k m : Nat) (hx : sz x k) (hy : sz y m) (hk : k ≤ 1000000 ∧ m ≤ 1000000) (hz : x + y = z) {Q : PV → Nat → List Nat → Prop}
    (hQ : ∀ (i : Sid) (n' : Nat), n ≤ n' → newSid n n' i → Q (W (decide (z < 0)) i (dig z.natAbs)) n' []) : PCall Tryz.prog 54 [W (decide (x < 0)) ia (dig x.natAbs), W (decide (y < 0)) ib (dig y.natAbs)] n Q := by
  have h1 := hx.len
  have h2 := hy.len
  exact refAdd_call hn _ _ ia ib _ _ (by omega) (by omega) (Lim.dig _) (Lim.dig _) z (by rw [numW_dig, numW_dig]; exact hz) hQ
theorem RNeg_Z {n : Nat} (hn : 0 < n) (x z : Int) (ia : Sid) (k : Nat) (hx : sz x k) (hk : k ≤ 1000000) (hz : z = -x) {Q : PV → Nat → List Nat → Prop}
    (hQ : ∀ i', i' = ⟨0, 0, 0⟩ ∨ i' = ia → Q (W (decide (z < 0)) i' (dig z.natAbs)) n []) : PCall Tryz.prog 75 [W (decide (x < 0)) ia (dig x.natAbs)] n Q := by
  have h1 := hx.len
  exact Neg_call hn _ ia _ (by omega) (Lim.dig _) z (by rw [numW_dig]; exact hz) hQ

/-- What is left of a signed sum from place j on. -/
def Rem (F : Nat → List Nat → Int) (c : List Nat) (j : Nat) : Int := sgn j * Sg (fun x r => F x (c.take j ++ r)) (c.drop j)
theorem Rem_zero (F : Nat → List Nat → Int) (c : List Nat) : Rem F c 0 = Sg F c := by
  unfold Rem; simp [sgn_zero]
theorem Rem_end (F : Nat → List Nat → Int) (c : List Nat) : Rem F c c.length = 0 := by
  unfold Rem; simp [Sg]
theorem Rem_step (F : Nat → List Nat → Int) {c : List Nat} {j : Nat} (hj : j < c.length) : Rem F c j = sgn j * F c[j] (lessOne c j) + Rem F c (j + 1) := by
  unfold Rem
  rw [List.drop_eq_getElem_cons hj]
  simp only [Sg]
  have e : Sg (fun c' r => F c' (c.take j ++ (c[j] :: r))) (c.drop (j + 1)) = Sg (fun x r => F x (c.take (j + 1) ++ r)) (c.drop (j + 1)) := Sg_ext _ fun x r => by
    rw [List.take_add_one, List.getElem?_eq_getElem hj]; simp [-List.take_append_getElem]
  rw [e, sgn_succ, Int.mul_sub, Int.neg_mul]
  unfold lessOne
  omega

def rdetI (i ia ic : Sid) (M : List Rw) (a c : List Nat) (F : Nat → List Nat → Int) (n : Nat) (k : Nat) (s : St) : Prop :=
  ∃ (j nx : Nat) (B : List (List PV)) (b0 : List PV) (i1 : Sid) (S : Int), j + k = c.length ∧ At s 50 (b0 :: [.bool (decide (S < 0)), .sl i1 1 (u32s (dig S.natAbs))] :: B) nx [(0, .sl i 1 (M.map Rw.pv)), (1, .sl ia 1 (i64s a)), (2, .sl ic 1 (i64s c)), (6, .box 0 0), (7, .box 1 0), (8, .int .i64 j)] ∧ b0.length = 2 ∧
    n ≤ nx ∧ newSid n nx i1 ∧ sz S (110 + j) ∧ S + Rem F c j = Sg F c
end Go.Proofs.YtphndngifjgeoaaGreatDoor

/-! ExI: Ranks as the program reckons them, by value. -/
set_option linter.unusedVariables false
set_option linter.unusedSimpArgs false
namespace Go.Proofs.YtphndngifjgeoaaGreatDoor
open Go.Proofs

/-- A call's outcome is one. -/
theorem PCall.fix {P : Program} {f : FuncId} {args : List PV} {n : Nat} {Q : PV → Nat → List Nat → Prop} (h : PCall P f args n Q) : ∃ v n' D, n ≤ n' ∧ Q v n' D ∧ ∀ {Q' : PV → Nat → List Nat → Prop}, Q' v n' D → PCall P f args n Q' :=
  let ⟨v, n', D, g, hn, q⟩ := h; ⟨v, n', D, hn, q, fun q' => ⟨v, n', D, g, hn, q'⟩⟩

/-- The minor of two sets of places. -/
def mnr (M : List Rw) (p q : Nat) : Int := Dt ((pickR M (bl 6 p)).map Rw.f) (bl 6 q)
def mnI (M : List Rw) : MInv := fun p q n => 0 < n ↔ mnr M p.toNat q.toNat ≠ 0
theorem bl_low {n m : Nat} (hm : m < 2 ^ n) (hn : n ≤ 6) : bl 6 m = bl n m := by
  rw [bl_bh hn, show bh n 6 m = [] from ?_, List.append_nil]
  unfold bh
  rw [List.filter_eq_nil_iff]
  intro q hq
  rw [List.mem_range'_1] at hq
  rw [Nat.testBit_lt_two_pow (Nat.lt_of_lt_of_le hm (Nat.pow_le_pow_right (by omega) hq.1))]
  simp
theorem full_call {n : Nat} (hn : 0 < n) (i : Sid) (M : List Rw) (w : Nat) (hM : MxOk n w 66 M) (hMl : M.length ≤ 6) (hw : w ≤ 6) (p q : Nat) (hp : p < 2 ^ M.length) (hq : q < 2 ^ w) (hpq : (bl 6 p).length = (bl 6 q).length) {Q : PV → Nat → List Nat → Prop}
    (hQ : ∀ n', n ≤ n' → Q (.bool (decide (mnr M p q ≠ 0))) n' []) : PCall Tryz.prog 72 [.agg [.sl i 1 (M.map Rw.pv), .map (mnI M)], .int .i64 p, .int .i64 q] n Q := by
  have hp6 : p < 64 := Nat.lt_of_lt_of_le hp (Nat.pow_le_pow_right (by omega) hMl)
  have hq6 : q < 64 := Nat.lt_of_lt_of_le hq (Nat.pow_le_pow_right (by omega) hw)
  have ep := bl_low hp hMl
  have eq := bl_low hq hw
  have h6 := bl_le 6 p
  obtain ⟨v1, n1, D1, g1, ⟨i1, rfl, d1, rfl⟩, c1⟩ := (places_call hn p (by omega) (Q := fun v n' D => ∃ i1, v = .sl i1 1 (i64s (bl 6 p)) ∧ newSid n n' i1 ∧ D = []) fun i1 n1 g1 d1 => ⟨i1, rfl, d1, rfl⟩).fix
  obtain ⟨v2, n2, D2, g2, ⟨i2, rfl, d2, rfl⟩, c2⟩ := (some_call (show 0 < n1 by omega) i i1 M (bl 6 p) (by omega) (by omega) (fun j hj => by rw [ep] at hj; exact (bl_lt hj).1) (Q := fun v n' D => ∃ i1, v = .sl i1 1 ((pickR M (bl 6 p)).map Rw.pv) ∧ newSid n1 n' i1 ∧ D = []) fun i1 n1 g1 d1 => ⟨i1, rfl, d1, rfl⟩).fix
  obtain ⟨v3, n3, D3, g3, ⟨i3, rfl, d3, rfl⟩, c3⟩ := (places_call (show 0 < n2 by omega) q (by omega) (Q := fun v n' D => ∃ i1, v = .sl i1 1 (i64s (bl 6 q)) ∧ newSid n2 n' i1 ∧ D = []) fun i1 n1 g1 d1 => ⟨i1, rfl, d1, rfl⟩).fix
  obtain ⟨v4, n4, D4, g4, ⟨i4, rfl, d4, rfl⟩, c4⟩ := (det_call (show 0 < n3 by omega) i2 i3 (pickR M (bl 6 p)) (bl 6 q) w (fun r hr => by
      obtain ⟨j, hj, rfl⟩ := List.mem_map.1 hr
      rw [ep] at hj
      have hjM := (bl_lt hj).1
      have e : M.getD j default = M[j] := by simp [List.getD, hjM]
      rw [e]
      exact (hM _ (List.getElem_mem _)).mono (by omega)) (by omega) (by simp [pickR, hpq]) (fun c hc => by rw [eq] at hc; exact (bl_lt hc).1) (Q := fun v n' D => ∃ i1, v = W (decide (mnr M p q < 0)) i1 (dig (mnr M p q).natAbs) ∧ newSid n3 n' i1 ∧ D = []) fun i1 n1 g1 d1 => ⟨i1, rfl, d1, rfl⟩).fix
  refine PCall.of_lookup mixed Tryz.func72 rfl (by kernel_rfl) (by kernel_rfl : comp _ = some c72) 38 rfl [.tmp 6] rfl hn (.bool (decide (mnr M p q ≠ 0))) n4 (by omega) (hQ n4 (by omega)) ?_
  obtain ⟨z, hz⟩ : ∃ z, z = mnr M p q := ⟨_, rfl⟩
  have hzl : ((dig z.natAbs).length : Int) > 0 ↔ z ≠ 0 := by
    by_cases h0 : z = 0
    · subst h0; simp [dig_zero]
    · have : 0 < (dig z.natAbs).length := by
        rcases Nat.eq_zero_or_pos (dig z.natAbs).length with e | e
        · have := dig_eq_nil.1 (List.eq_nil_of_length_eq_zero e); omega
        · exact e
      constructor
      · intro _; exact h0
      · intro _; omega
  rw [← hz]
  rw [← hz] at c4
  rw [PSeqN_cons rfl]
  simp (disch := omega)
  rw [PSeqN_cons rfl]
  simp (disch := omega)
  rw [PSeqN_cons rfl]
  simp (disch := omega)
  rw [PSeqN_cons rfl]
  simp (disch := omega)
  rw [PSeqN_cons rfl]
  simp (disch := omega)
  rw [PSeqN_cons rfl]
  simp (disch := omega)
  rw [PSeqN_cons rfl]
  simp (disch := omega)
  refine ⟨p, q, ⟨rfl, rfl⟩, fun m => ⟨?_, fun hI => ?_⟩⟩
  · rw [PSeqN_cons rfl]
    simp (disch := omega)
    rw [PSeqN_cons rfl]
    simp (disch := omega)
    rw [PSeqN_cons rfl]
    simp (disch := omega)
    rw [PSeqN_cons rfl]
    simp (disch := omega)
    rw [PSeqN_cons rfl]
    simp (disch := omega)
    refine CallK.of (by simp) (c1 ?_)
    simp (disch := omega)
    refine CallK.of (by simp) (c2 ?_)
    simp (disch := omega)
    refine CallK.of (by simp) (c3 ?_)
    simp (disch := omega)
    refine CallK.of (by simp) (c4 ?_)
    have hfv : fieldV Tryz.prog 27 1 (W (decide (z < 0)) i4 (dig z.natAbs)) = some (.sl i4 1 (u32s (dig z.natAbs))) := by simp [fieldV]
    simp (disch := omega) [hfv]
    refine ⟨p, q, ⟨rfl, rfl⟩, ?_, ?_, by omega⟩
    · unfold mnI
      simp only [Int.toNat_natCast, ← hz]
      exact hzl
    · by_cases h0 : z = 0
      · subst h0; simp [dig_zero]
      · have := hzl.2 h0
        simp [h0]; omega
  · rw [PSeqN_cons rfl]
    simp (disch := omega)
    rw [PSeqN_cons rfl]
    simp (disch := omega)
    rw [PSeqN_cons rfl]
    simp (disch := omega)
    rw [PSeqN_cons rfl]
    simp (disch := omega)
    rw [PSeqN_cons rfl]
    simp (disch := omega)
    unfold mnI at hI
    simp only [Int.toNat_natCast, ← hz] at hI
    refine ⟨?_, by omega⟩
    by_cases h0 : z = 0
    · simp [h0] at hI ⊢; omega
    · simp [h0] at hI ⊢; omega

/-! ### the rank -/
theorem Mf_rows (M : List Rw) {w : Nat} (h : ∀ r, r ∈ M → r.es.length = w) : ∀ i c, w ≤ c → Mf M i c = 0 := fun i c hc => by
  unfold Mf
  cases hi : M[i]? with
  | none => rfl
  | some r =>
    have := h r (List.mem_of_getElem? hi)
    simp only [Rw.f]
    rw [List.getElem?_eq_none (by omega)]
theorem Mf_high (M : List Rw) : ∀ i c, M.length ≤ i → Mf M i c = 0 := fun i c hi => by
  unfold Mf
  rw [List.getElem?_eq_none hi]
theorem mnr_is (M : List Rw) {w p q : Nat} (hMl : M.length ≤ 6) (hw : w ≤ 6) (hp : p < 2 ^ M.length) (hq : q < 2 ^ w) : mnr M p q = Dt ((bl M.length p).map fun i => Mf M i) (bl w q) := by
  unfold mnr
  rw [bl_low hp hMl, bl_low hq hw]
  congr 1
  unfold pickR
  rw [List.map_map]
  refine List.map_congr_left fun j hj => ?_
  have hjM := (bl_lt hj).1
  simp [List.getD, hjM, Mf]
def rankI (i : Sid) (M : List Rw) (w n : Nat) (k : Nat) (s : St) : Prop :=
  ∃ (a b nx : Nat), a + k = 2 ^ M.length ∧ At s 51 [[.sl i 1 (M.map Rw.pv), .map (mnI M)]] nx [(0, .sl i 1 (M.map Rw.pv)), (5, .int .i64 b), (6, .box 0 0), (20, .int .i64 (2 ^ M.length : Nat)), (21, .int .i64 a)] ∧ n ≤ nx ∧ b ≤ 6 ∧
    (b = 0 ∨ ∃ p q, p < 2 ^ M.length ∧ q < 2 ^ w ∧ (bl 6 p).length = b ∧ (bl 6 q).length = b ∧ mnr M p q ≠ 0) ∧
    ∀ p q, p < a → q < 2 ^ w → b < (bl 6 p).length → (bl 6 q).length = (bl 6 p).length → mnr M p q = 0
def rankJ (i : Sid) (M : List Rw) (w n a b kk : Nat) (k : Nat) (s : St) : Prop :=
  ∃ (q nx : Nat), q + k = 2 ^ w ∧ At s 51 [[.sl i 1 (M.map Rw.pv), .map (mnI M)]] nx [(0, .sl i 1 (M.map Rw.pv)), (5, .int .i64 b), (6, .box 0 0), (20, .int .i64 (2 ^ M.length : Nat)), (21, .int .i64 a), (7, .int .i64 a), (8, .int .i64 kk), (32, .int .i64 (2 ^ w : Nat)), (33, .int .i64 q)] ∧ n ≤ nx ∧
    ∀ q', q' < q → (bl 6 q').length = kk → mnr M a q' = 0
theorem Rank_err {n : Nat} (hn : 0 < n) (i : Sid) (M : List Rw) (hM : Fits M) (h : chk M ≠ 0) {Q : PV → Nat → List Nat → Prop}
    (hQ : Q (.tup [.int .i64 0, .int .i64 (chk M)]) n []) : PCall Tryz.prog 46 [.sl i 1 (M.map Rw.pv)] n Q := by
  refine of46 hn ?_
  simp (disch := omega) [c46]
  refine CallK.of (by simp) (CheckM_call hn i M hM ?_)
  have h' : (chk M != 0) = true := by simpa using h
  simpa (disch := omega) [h, h'] using hQ
set_option maxHeartbeats 1000000 in
theorem Rank_ok {n : Nat} (hn : 0 < n) (i : Sid) (M : List Rw) (w : Nat) (hw0 : w = widthR M) (hM : Fits M) (h : chk M = 0) (hm : MxOk n w 66 M) (hMl : M.length ≤ 6) (hw : w ≤ 6) {Q : PV → Nat → List Nat → Prop}
    (hQ : ∀ (n' b : Nat), n ≤ n' → IsRank (rowsOf M.length (Mf M)) b → b ≤ 6 → Q (.tup [.int .i64 b, .int .i64 0]) n' []) : PCall Tryz.prog 46 [.sl i 1 (M.map Rw.pv)] n Q := by
  obtain ⟨N, hN⟩ : ∃ N, N = 2 ^ M.length := ⟨_, rfl⟩
  have hN1 : 1 ≤ N := by rw [hN]; exact Nat.one_le_two_pow
  have hN2 : N ≤ 64 := by rw [hN]; exact Nat.pow_le_pow_right (n := 2) (by omega) hMl
  have hshl : binPV Tryz.prog .shl 3 (.int .i64 1) (.int .i64 (M.length : Int)) = some (.int .i64 (N : Nat)) := by rw [hN]; exact shl_one_i64 (by omega)
  obtain ⟨X, hX⟩ : ∃ X, X = 2 ^ w := ⟨_, rfl⟩
  have hX2 : X ≤ 64 := by rw [hX]; exact Nat.pow_le_pow_right (n := 2) (by omega) hw
  have hshw : binPV Tryz.prog .shl 3 (.int .i64 1) (.int .i64 (w : Int)) = some (.int .i64 (X : Nat)) := by rw [hX]; exact shl_one_i64 (by omega)
  have hwl := width_lt hM
  refine of46 hn ?_
  simp (disch := omega) [c46]
  refine CallK.of (by simp) (CheckM_call hn i M hM ?_)
  simp (disch := omega) [-binPV_shl, hshl, h]
  refine ⟨mnI M, ?_⟩
  refine GO_loopN (rankI i M w n) N ⟨0, 0, n, by omega, by simp [At, ← hN], Nat.le_refl _, by omega, .inl rfl, fun p q hp => by omega⟩ ?_
  rintro k s ⟨a, b, nx, hak, ⟨e1, e2, e3, e4, e5⟩, hnx, hb6, hP1, hP2⟩
  simp at e5
  rw [show ((2 : Int) ^ M.length) = (N : Nat) by rw [hN]; simp] at e5
  obtain ⟨e5, e6, e7, e8, e9⟩ := e5
  by_cases hk : a < N
  · simp (disch := omega) [-binPV_shl, hshl, c46L1, e1, e2, e3, e4, e5, e6, e7, e8, e9, hk]
    refine CallK.of (by simp) (OnesCount_call (by omega) a (by omega) ?_)
    obtain ⟨kk, hkk⟩ : ∃ kk, kk = (bl 6 a).length := ⟨_, rfl⟩
    rw [← hkk]
    have hkk6 : kk ≤ 6 := by rw [hkk]; exact bl_le 6 a
    by_cases hle : kk ≤ b
    · simp (disch := omega) [c46R0, e1, e2, e3, e4, e5, e6, e7, e8, e9, hle]
      refine ⟨k - 1, by omega, a + 1, b, nx, by omega, by simp [At, e1, e2, e3, e4, e5, e6, e7, e8, e9, hN], hnx, hb6, hP1, fun p q hp hq hbp hpq => ?_⟩
      by_cases hpa : p = a
      · subst hpa; omega
      · exact hP2 p q (by omega) hq hbp hpq
    · simp (disch := omega) [e1, e2, e3, e4, e5, e6, e7, e8, e9, hle]
      refine CallK.of (by simp) (width_call (by omega) i M (by omega) hwl ?_)
      rw [← hw0]
      simp (disch := omega) [-binPV_shl, hshw, e1, e2, e3, e4, e5, e6, e7, e8, e9]
      refine GO_loopN (rankJ i M w n a b kk) X ⟨0, nx, by omega, by simp [At, e1, e2, e3, e4, e5, e6, e7, e8, e9, ← hN, ← hX], hnx, fun q hq => by omega⟩ ?_
      rintro k2 s2 ⟨q, nx2, hqk, ⟨f1, f2, f3, f4, f5⟩, hnx2, hP3⟩
      simp at f5
      rw [show ((2 : Int) ^ M.length) = (N : Nat) by rw [hN]; simp, show ((2 : Int) ^ w) = (X : Nat) by rw [hX]; simp] at f5
      obtain ⟨f5, f6, f7, f8, f9, f10, f11, f12, f13⟩ := f5
      by_cases hk2 : q < X
      · simp (disch := omega) [c46L0, f1, f2, f3, f4, f5, f6, f7, f8, f9, f10, f11, f12, f13, hk2]
        refine CallK.of (by simp) (OnesCount_call (by omega) q (by omega) ?_)
        by_cases hqk2 : (bl 6 q).length = kk
        · simp (disch := omega) [f1, f2, f3, f4, f5, f6, f7, f8, f9, f10, f11, f12, f13, hqk2]
          refine CallK.of (by simp) (full_call (by omega) i M w (hm.mono hnx2) hMl hw a q (by omega) (by omega) (by omega) fun n3 g3 => ?_)
          by_cases hz : mnr M a q = 0
          · simp (disch := omega) [f1, f2, f3, f4, f5, f6, f7, f8, f9, f10, f11, f12, f13, hz, g3]
            refine ⟨k2 - 1, by omega, q + 1, n3, by omega, by simp [At, f1, f2, f3, f4, f5, f6, f7, f8, f9, f10, f11, f12, f13, hN, hX], by omega, fun q' hq' hl => ?_⟩
            by_cases hqq : q' = q
            · subst hqq; exact hz
            · exact hP3 q' (by omega) hl
          · simp (disch := omega) [f1, f2, f3, f4, f5, f6, f7, f8, f9, f10, f11, f12, f13, hz, g3, c46R0]
            refine ⟨k - 1, by omega, a + 1, kk, n3, by omega, by simp [At, f1, f2, f3, f4, f5, f6, f7, f8, f9, f10, f11, f12, f13, hN], by omega, hkk6, .inr ⟨a, q, by omega, by omega, hkk.symm, hqk2, hz⟩, fun p q hp hq hbp hpq => ?_⟩
            by_cases hpa : p = a
            · subst hpa; omega
            · exact hP2 p q (by omega) hq (by omega) hpq
        · simp (disch := omega) [f1, f2, f3, f4, f5, f6, f7, f8, f9, f10, f11, f12, f13, hqk2]
          refine ⟨k2 - 1, by omega, q + 1, nx2, by omega, by simp [At, f1, f2, f3, f4, f5, f6, f7, f8, f9, f10, f11, f12, f13, hN, hX], by omega, fun q' hq' hl => ?_⟩
          by_cases hqq : q' = q
          · subst hqq; exact absurd hl hqk2
          · exact hP3 q' (by omega) hl
      · simp (disch := omega) [c46L0, c46R0, f1, f2, f3, f4, f5, f6, f7, f8, f9, f10, f11, f12, f13, hk2]
        refine ⟨k - 1, by omega, a + 1, b, nx2, by omega, by simp [At, f1, f2, f3, f4, f5, f6, f7, f8, f9, f10, f11, f12, f13, hN], by omega, hb6, hP1, fun p q hp hq hbp hpq => ?_⟩
        by_cases hpa : p = a
        · subst hpa; exact hP3 q (by omega) (by omega)
        · exact hP2 p q (by omega) hq hbp hpq
  · have haN : a = N := by omega
    have hr : IsRank (rowsOf M.length (Mf M)) b := by
      refine rank_minors (w := w) (Mf_rows M fun r hr => (hm r hr).w) ?_ ?_
      · rcases hP1 with h0 | ⟨p, q, h1, h2, h3, h4, h5⟩
        · exact .inl h0
        · refine .inr ⟨p, q, h1, h2, by rw [← bl_low h1 hMl]; exact h3, by rw [← bl_low h2 hw]; exact h4, ?_⟩
          rw [← mnr_is M hMl hw h1 h2]; exact h5
      · intro p q h1 h2 h3 h4
        rw [← mnr_is M hMl hw h1 h2]
        rw [← bl_low h1 hMl] at h3
        rw [← bl_low h1 hMl, ← bl_low h2 hw] at h4
        exact hP2 p q (by omega) h2 h3 h4
    simpa (disch := omega) [c46L1, c46R1, e1, e2, e3, e4, e5, e6, e7, e8, e9, hk, hnx] using hQ nx b hnx hr hb6
end Go.Proofs.YtphndngifjgeoaaGreatDoor

/-! ExJ: Rows taken off others crosswise, as the document has it, by value. -/
set_option linter.unusedVariables false
set_option linter.unusedSimpArgs false
namespace Go.Proofs.YtphndngifjgeoaaGreatDoor
open Go.Proofs

/-- A number as it must be written, of any size. -/
structure ECan (n b : Nat) (e : Ent) : Prop where
  f : e.i.f < n
  s : e.n = decide (e.num < 0)
  l : e.l = dig e.num.natAbs
  z : sz e.num b
theorem EOk.can {n b : Nat} {e : Ent} (h : EOk n b e) : ECan n b e := ⟨h.f, h.is.1, h.is.2.1, h.is.2.2⟩
theorem ECan.mono {n n' b b' : Nat} {e : Ent} (h : ECan n b e) (hn : n ≤ n') (hb : b ≤ b') : ECan n' b' e := ⟨Nat.lt_of_lt_of_le h.f hn, h.s, h.l, h.z.mono hb⟩
def entZ (i : Sid) (z : Int) : Ent := ⟨decide (z < 0), i, dig z.natAbs⟩
@[simp] theorem entZ_num (i : Sid) (z : Int) : (entZ i z).num = z := numW_dig z
theorem entZ_can {n b : Nat} {i : Sid} {z : Int} (hi : i.f < n) (hz : sz z b) : ECan n b (entZ i z) := ⟨hi, by rw [entZ_num]; rfl, by rw [entZ_num]; rfl, by rw [entZ_num]; exact hz⟩
theorem len_num {n b : Nat} {e : Ent} (h : ECan n b e) : e.l.length = 0 ↔ e.num = 0 := by
  rw [h.l]
  constructor
  · intro h0
    have := dig_eq_nil.1 (List.eq_nil_of_length_eq_zero h0)
    omega
  · intro h0
    rw [h0]; simp [dig_zero]

def lessI (ia ib ix iy : Sid) (a b : List Ent) (x y : Int) (n : Nat) (k : Nat) (s : St) : Prop :=
  ∃ (j nx : Nat) (i : Sid) (o : List Ent), j + k = a.length ∧ At s 35 [[.bool (decide (x < 0)), .sl ix 1 (u32s (dig x.natAbs))], [.bool (decide (y < 0)), .sl iy 1 (u32s (dig y.natAbs))]] nx [(0, .sl ia 2 (a.map Ent.pv)), (2, .sl ib 2 (b.map Ent.pv)), (5, .box 0 0), (7, .box 1 0), (9, .sl i 2 (o.map Ent.pv)), (10, .int .i64 j)] ∧
    Grow s.tips n nx i (j * 2) ∧ n ≤ nx ∧ o.length = j ∧ ∀ q, q < j → ∃ e p r, o[q]? = some e ∧ a[q]? = some p ∧ b[q]? = some r ∧ e.num = p.num * x - r.num * y ∧ (∃ i', newSid n nx i' ∧ e = entZ i' (p.num * x - r.num * y))
/-! ### the first row that is not 0 in a column -/
def ZOk (n w b : Nat) (L : List Rw) : Prop := ∀ r, r ∈ L → r.i.f < n ∧ r.es.length = w ∧ ∀ e, e ∈ r.es → ECan n b e
theorem MxOk.z {n w b : Nat} {M : List Rw} (h : MxOk n w b M) : ZOk n w b M := fun r hr => ⟨(h r hr).f, (h r hr).w, fun e he => ((h r hr).e e he).can⟩
theorem ZOk.mono {n n' w b b' : Nat} {L : List Rw} (h : ZOk n w b L) (hn : n ≤ n') (hb : b ≤ b') : ZOk n' w b' L := fun r hr => ⟨Nat.lt_of_lt_of_le (h r hr).1 hn, (h r hr).2.1, fun e he => ((h r hr).2.2 e he).mono hn hb⟩
theorem Mf_get {L : List Rw} {i c : Nat} {r : Rw} {e : Ent} (hr : L[i]? = some r) (he : r.es[c]? = some e) : Mf L i c = e.num := by
  unfold Mf; rw [hr]; simp only [Rw.f, he]
def pivotI (i : Sid) (L : List Rw) (d c n : Nat) (k : Nat) (s : St) : Prop :=
  ∃ j : Nat, j + k = L.length ∧ d ≤ j ∧ At s 25 [] n [(0, .sl i 1 (L.map Rw.pv)), (2, .int .i64 c), (7, .int .i64 j)] ∧ ∀ q, d ≤ q → q < j → Mf L q c = 0
end Go.Proofs.YtphndngifjgeoaaGreatDoor

/-! ExK: The document's rank, by value. -/
set_option linter.unusedVariables false
set_option linter.unusedSimpArgs false
namespace Go.Proofs.YtphndngifjgeoaaGreatDoor
open Go.Proofs

/-! ### rows behind a store to a slice of rows -/
def Clean (f : Nat) (r : Rw) : Prop := r.i.f ≠ f ∧ ∀ e, e ∈ r.es → e.i.f ≠ f
theorem poisonL_ents {f : Nat} : ∀ {l : List Ent}, (∀ e, e ∈ l → e.i.f ≠ f) → PV.poisonL [f] (l.map Ent.pv) = l.map Ent.pv
  | [], _ => by simp
  | e :: l, h => by
    have h0 := h e (by simp)
    have ih := poisonL_ents (l := l) fun e he => h e (by simp [he])
    simp only [List.map_cons, poisonL_cons', ih, Ent.pv, poison_agg_s, poisonL_nil', poison_bool]
    rw [poison_sl _ _ _ _ (by simpa using h0)]
theorem poison_row {f : Nat} {r : Rw} (h : Clean f r) : (PV.sl r.i 2 (r.es.map Ent.pv)).poison [f] = .sl r.i 2 (r.es.map Ent.pv) := by
  unfold PV.poison
  rw [if_neg (by simpa using h.1), poisonL_ents h.2]
theorem poisonL_rows {f : Nat} : ∀ {L : List Rw}, (∀ r, r ∈ L → Clean f r) → PV.poisonL [f] (L.map Rw.pv) = L.map Rw.pv
  | [], _ => by simp
  | r :: L, h => by
    simp only [List.map_cons, poisonL_cons', Rw.pv, poison_row (h r (by simp))]
    rw [poisonL_rows fun r hr => h r (by simp [hr])]
theorem upd_rows_other {i i' : Sid} {z j c : Nat} {vs : List PV} {L : List Rw} (hi : i'.f ≠ i.f) (h : ∀ r, r ∈ L → Clean i.f r) : PV.upd i z j c vs (.sl i' 1 (L.map Rw.pv)) = .sl i' 1 (L.map Rw.pv) := by
  have : ¬ (i' = i ∧ 1 = z) := fun e => hi (by rw [e.1])
  unfold PV.upd
  rw [if_neg this]
  unfold PV.poison
  rw [if_neg (by simpa using hi), poisonL_rows h]
theorem modify_rows (L : List Rw) (j : Nat) (r : Rw) : (L.map Rw.pv).modify j (fun e => e.withCells 0 [PV.sl r.i 2 (r.es.map Ent.pv)]) = (L.set j r).map Rw.pv := by
  induction L generalizing j with
  | nil => simp
  | cons q L ih =>
    cases j with
    | zero => simp [PV.withCells]
    | succ j => simp [ih]
theorem upd_rows_same {i : Sid} {j : Nat} {L : List Rw} {r : Rw} (h : ∀ r, r ∈ L → Clean i.f r) : PV.upd i 1 j 0 [PV.sl r.i 2 (r.es.map Ent.pv)] (.sl i 1 (L.map Rw.pv)) = .sl i 1 ((L.set j r).map Rw.pv) := by
  unfold PV.upd
  rw [if_pos ⟨rfl, rfl⟩, poisonL_rows h, modify_rows]
theorem clean_of {n w b f : Nat} {L : List Rw} (h : ZOk n w b L) (hf : n ≤ f) : ∀ r, r ∈ L → Clean f r := fun r hr => ⟨by have := (h r hr).1; omega, fun e he => by have := ((h r hr).2.2 e he).f; omega⟩

/-- A size behind c columns. -/
def bnd (b : Nat) : Nat → Nat
  | 0 => b
  | c + 1 => 2 * bnd b c + 1
theorem bnd_le (b : Nat) : ∀ c, bnd b c + 1 ≤ (b + 1) * 2 ^ c
  | 0 => by simp [bnd]
  | c + 1 => by have := bnd_le b c; simp only [bnd, Nat.pow_succ]; rw [← Nat.mul_assoc]; omega
theorem Mf_set {L : List Rw} {j : Nat} {r : Rw} (hj : j < L.length) : Mf (L.set j r) = fun i => if i = j then r.f else Mf L i := by
  funext i
  unfold Mf
  by_cases h : i = j
  · subst h; simp [hj]
  · simp [List.getElem?_set, h, Ne.symm h]

def relI (i il : Sid) (M L N : List Rw) (w d c p n nx0 b B : Nat) (k : Nat) (s : St) : Prop :=
  ∃ (j nx : Nat) (N' : List Rw), j + k = N.length ∧ d < j ∧ At s 88 [] nx [(0, .sl i 1 (M.map Rw.pv)), (3, .sl il 1 (L.map Rw.pv)), (4, .int .i64 d), (5, .int .i64 c), (7, .sl ⟨nx0, nx0 + 1, 0⟩ 1 (N'.map Rw.pv)), (8, .int .i64 j)] ∧ s.n0 = n ∧ nx0 + 2 ≤ nx ∧ N'.length = N.length ∧ ZOk nx w B N' ∧ (∀ r, r ∈ N' → Clean nx0 r) ∧
    (∀ q, q < j → Mf N' q = elimF (Mf N) d c q) ∧ (∀ q, q ≤ d ∨ j ≤ q → N'[q]? = N[q]?)
def rnkI (i : Sid) (M : List Rw) (w n b : Nat) (k : Nat) (s : St) : Prop :=
  ∃ (c d nx : Nat) (il : Sid) (L : List Rw), c + k = w ∧ At s 88 [] nx [(0, .sl i 1 (M.map Rw.pv)), (3, .sl il 1 (L.map Rw.pv)), (4, .int .i64 d), (5, .int .i64 c)] ∧ s.n0 = n ∧ n ≤ nx ∧ il.f < nx ∧ L.length = M.length ∧ ZOk nx w (bnd b c) L ∧ Stairs (Mf L) M.length d c ∧
    ∀ r, IsRank (rowsOf M.length (Mf L)) r → IsRank (rowsOf M.length (Mf M)) r
end Go.Proofs.YtphndngifjgeoaaGreatDoor
