/- Rows of whole numbers, by value; lists that grow; the small functions on places. -/
import Derived.Test.YtcdkgeeookcoeaaCtL
import Derived.Test.YtcdkgeeookcoeaaCtJ
import Derived.Test.YtcdkgeeookcoeaaDtC
set_option linter.unusedVariables false
set_option linter.unusedSimpArgs false
namespace Go.Proofs.Ytcdkgeeookcoeaa
open Go.Proofs

/-! ### numbers in rows -/
structure Ent where
  n : Bool
  i : Sid
  l : List Nat
@[simp] def Ent.pv (e : Ent) : PV := .agg [.bool e.n, .sl e.i 1 (u32s e.l)]
structure Rw where
  i : Sid
  es : List Ent
@[simp] def Rw.pv (r : Rw) : PV := .sl r.i 2 (r.es.map Ent.pv)
def ints (l : List Int) : List PV := l.map fun x => .int .i64 x
def i64s (l : List Nat) : List PV := l.map fun (x : Nat) => .int .i64 (x : Int)
@[simp] theorem ints_length (l : List Int) : (ints l).length = l.length := by simp [ints]
@[simp] theorem i64s_length (l : List Nat) : (i64s l).length = l.length := by simp [i64s]
@[simp] theorem ints_get (l : List Int) (i : Nat) : (ints l)[i]? = (l[i]?).map fun x => PV.int .i64 x := by simp [ints]
@[simp] theorem i64s_get (l : List Nat) (i : Nat) : (i64s l)[i]? = (l[i]?).map fun (x : Nat) => PV.int .i64 (x : Int) := by simp [i64s]
@[simp] theorem i64s_nil : i64s [] = [] := nrfl rfl
@[simp] theorem i64s_snoc (l : List Nat) (x : Nat) : i64s l ++ [PV.int .i64 (x : Int)] = i64s (l ++ [x]) := by simp [i64s]
theorem i64s_append (l m : List Nat) : i64s l ++ i64s m = i64s (l ++ m) := by simp [i64s]
theorem i64s_take (l : List Nat) (n : Nat) : (i64s l).take n = i64s (l.take n) := by simp [i64s, List.map_take]
theorem i64s_drop (l : List Nat) (n : Nat) : (i64s l).drop n = i64s (l.drop n) := by simp [i64s, List.map_drop]
@[simp] theorem i64s_eq_nil (l : List Nat) : i64s l = [] ↔ l = [] := by simp [i64s]
theorem ints_i64s {l : List Int} (h : ∀ x, x ∈ l → 0 ≤ x) : ints l = i64s (l.map Int.toNat) := by
  induction l with
  | nil => rfl
  | cons x l ih =>
    have h0 := h x (by simp)
    have e : ((x.toNat : Nat) : Int) = x := by omega
    simp only [ints, i64s, List.map_cons, e] at ih ⊢
    rw [ih fun y hy => h y (by simp [hy])]

@[simp] theorem succ_beq_zero (k : Nat) : (((k : Int) + 1 == 0) : Bool) = false := by simp; omega
@[simp] theorem succ_bne_zero (k : Nat) : (((k : Int) + 1 != 0) : Bool) = true := by simp; omega
@[simp] theorem zero_lt_succ' (k : Nat) : (0 : Int) < (k : Int) + 1 := by omega

/-! ### boxes -/
section
variable {α : Type} (B l : List α) (k : Nat) (x : α)
@[simp] theorem ap_get0 : (B ++ l)[B.length]? = l[0]? := by rw [List.getElem?_append_right (Nat.le_refl _), Nat.sub_self]
@[simp] theorem ap_get : (B ++ l)[B.length + k]? = l[k]? := by rw [List.getElem?_append_right (Nat.le_add_right _ _), Nat.add_sub_cancel_left]
@[simp] theorem ap_get_lt (h : k < B.length) : (B ++ l)[k]? = B[k]? := List.getElem?_append_left h
@[simp] theorem ap_set0 : (B ++ l).set B.length x = B ++ l.set 0 x := by rw [List.set_append_right _ _ (Nat.le_refl _), Nat.sub_self]
@[simp] theorem ap_set : (B ++ l).set (B.length + k) x = B ++ l.set k x := by rw [List.set_append_right _ _ (Nat.le_add_right _ _), Nat.add_sub_cancel_left]
@[simp] theorem ap_set_lt (h : k < B.length) : (B ++ l).set k x = B.set k x ++ l := List.set_append_left _ _ h
end

/-! ### slices that grow -/
section
variable (s : St) (n : Nat) (t : List (Nat × Nat × Nat)) (d : Option Tmp) (v : PV)
@[simp] theorem bump_slots : (s.bump n t).slots = s.slots := nrfl rfl
@[simp] theorem bump_nt : (s.bump n t).nt = s.nt := nrfl rfl
@[simp] theorem bump_boxes : (s.bump n t).boxes = s.boxes := nrfl rfl
@[simp] theorem bump_next : (s.bump n t).next = n := nrfl rfl
@[simp] theorem bump_tips : (s.bump n t).tips = t := nrfl rfl
@[simp] theorem bump_D : (s.bump n t).D = s.D := nrfl rfl
@[simp] theorem bump_n0 : (s.bump n t).n0 = s.n0 := nrfl rfl
end
/-- A slice of this frame's own that may be appended to: none yet, or one with nothing behind it. -/
def Grow (tips : List (Nat × Nat × Nat)) (n nx : Nat) (i : Sid) (len : Nat) : Prop :=
  (i = ⟨0, 0, 0⟩ ∧ len = 0) ∨ (0 < i.g ∧ i.off = 0 ∧ tipOf tips i.g i.f = some len ∧ n ≤ i.f ∧ i.f < nx ∧ i.g < nx)
theorem Grow.sid {tips : List (Nat × Nat × Nat)} {n nx : Nat} {i : Sid} {len : Nat} (h : Grow tips n nx i len) : newSid n nx i := by
  rcases h with ⟨h, _⟩ | ⟨_, _, _, h1, h2, _⟩
  · exact .inl h
  · exact .inr ⟨h1, h2⟩
theorem Grow.mono {tips : List (Nat × Nat × Nat)} {n nx nx' : Nat} {i : Sid} {len : Nat} (h : Grow tips n nx i len) (hn : nx ≤ nx') : Grow tips n nx' i len := by
  rcases h with h | ⟨h1, h2, h3, h4, h5, h6⟩
  · exact .inl h
  · exact .inr ⟨h1, h2, h3, h4, by omega, by omega⟩
theorem Grow.cons {tips : List (Nat × Nat × Nat)} {n nx : Nat} {i : Sid} {len : Nat} (h : Grow tips n nx i len) {g f T : Nat} (hg : nx ≤ g) : Grow ((g, f, T) :: tips) n nx i len := by
  rcases h with h | ⟨h1, h2, h3, h4, h5, h6⟩
  · exact .inl h
  · exact .inr ⟨h1, h2, by rw [tipOf_tail _ _ _ _ _ _ (by omega)]; exact h3, h4, h5, h6⟩
theorem Grow.nil (tips : List (Nat × Nat × Nat)) (n nx : Nat) : Grow tips n nx ⟨0, 0, 0⟩ 0 := .inl ⟨rfl, rfl⟩
theorem Grow.fresh (tips : List (Nat × Nat × Nat)) {n nx g : Nat} (T : Nat) (h : n ≤ g) (h0 : 0 < g) (hx : g < nx) : Grow ((g, g, T) :: tips) n nx ⟨g, g, 0⟩ T :=
  .inr ⟨h0, rfl, tipOf_head g g T tips, h, hx, hx⟩
theorem AppK_grow {m by_ n len : Nat} {i i2 : Sid} {z : Nat} {es es2 : List PV} {s : St} {K : St → PV → Prop} (h : Grow s.tips n s.next i len) (hlen : len = es.length * m) (hn : n ≤ s.next) (hn0 : 0 < n) (hz' : i.g = 0 ∨ z = m) (hl : (es.length + es2.length) * by_ ≤ 140737488355328) (hm : 0 < m) (h2 : es2 ≠ [])
    (hK : ∀ (tips : List (Nat × Nat × Nat)) (i' : Sid), (∀ g f, g < s.next → g ≠ i.g → tipOf tips g f = tipOf s.tips g f) → s.next ≤ i'.g → i'.off = 0 → Grow tips n (s.next + 1) i' ((es.length + es2.length) * m) → K (s.bump (s.next + 1) tips) (.sl i' m (es ++ es2))) : AppK m by_ (.sl i z es) (.sl i2 m es2) s K := by
  unfold AppK
  simp only
  refine ⟨hl, .inl trivial, ?_⟩
  rcases h with ⟨rfl, h0⟩ | ⟨h1, h2', h3, h4, h5, h6⟩
  · have he : es = [] := by
      rcases Nat.eq_zero_or_pos es.length with e | e
      · exact List.eq_nil_of_length_eq_zero e
      · have := Nat.mul_pos e hm; omega
    subst he
    rw [if_pos rfl]
    refine ⟨rfl, h2, ?_⟩
    rw [fresh_bump]
    refine hK _ ⟨s.next, s.next, 0⟩ (fun g f hg _ => by rw [tipOf_tail _ _ _ _ _ _ (by omega)]) (Nat.le_refl _) rfl ?_
    simp only [List.length_nil, Nat.zero_add]
    exact .fresh _ _ hn (by omega) (Nat.lt_succ_self _)
  · have hzz : z = m := hz'.resolve_left (by omega)
    rw [if_neg (by omega)]
    refine ⟨hzz, by rw [h3, h2', hlen]; simp, ?_⟩
    rw [regrown_bump]
    refine hK _ ⟨i.f, s.next, 0⟩ (fun g f hg hne => ?_) (Nat.le_refl _) rfl ?_
    · rw [tipOf_tail _ _ _ _ _ _ (by omega)]
      unfold tipOf
      congr 1
      induction s.tips with
      | nil => rfl
      | cons x t ih =>
        by_cases hx : x.1 = i.g
        · have e1 : (x.1 != i.g) = false := by simp [hx]
          have e2 : (x.1 == g) = false := by simp [hx]; omega
          simp [List.filter_cons, e1, List.find?_cons, e2, ih]
        · have e1 : (x.1 != i.g) = true := by simp [hx]
          simp only [List.filter_cons, e1, if_true, List.find?_cons, ih]
    · exact .inr ⟨by show 0 < s.next; omega, rfl, tipOf_head _ _ _ _, h4, by show i.f < _; omega, Nat.lt_succ_self _⟩
end Go.Proofs.Ytcdkgeeookcoeaa
