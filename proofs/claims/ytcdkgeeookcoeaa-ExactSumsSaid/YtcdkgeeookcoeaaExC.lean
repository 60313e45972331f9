/- Rows picked, places that rise, lists less one place, by value. -/
import Derived.Test.YtcdkgeeookcoeaaExB
set_option linter.unusedVariables false
set_option linter.unusedSimpArgs false
namespace Go.Proofs.Ytcdkgeeookcoeaa
open Go.Proofs

instance : Inhabited Rw := ⟨⟨⟨0, 0, 0⟩, []⟩⟩
theorem AppK_gen {m by_ f g off : Nat} {i2 : Sid} {z2 : Nat} {es es2 : List PV} {s : St} {K : St → PV → Prop} (hg : ¬ g = 0) :
    AppK m by_ (.sl ⟨f, g, off⟩ m es) (.sl i2 z2 es2) s K ↔ (es.length + es2.length) * by_ ≤ 140737488355328 ∧ (z2 = m ∨ es2 = []) ∧ tipOf s.tips g f = some (off + es.length * m) ∧ K (s.regrown g f ((es.length + es2.length) * m)) (.sl ⟨f, s.next, 0⟩ m (es ++ es2)) := by
  simp [AppK, hg]
@[simp] theorem sliceP_succ (z : Nat) (i : Sid) (es : List PV) (lo hi : Nat) (h : lo + 1 ≤ hi ∧ hi ≤ es.length) : sliceP z i es ((lo : Int) + 1) (hi : Int) = some (.sl ⟨i.f, i.g, i.off + (lo + 1) * z⟩ z ((es.drop (lo + 1)).take (hi - (lo + 1)))) := sliceP_nat z i es (lo + 1) hi h
theorem take_rest {α : Type} (l : List α) (k : Nat) : (l.drop k).take (l.length - k) = l.drop k := List.take_of_length_le (by simp)

def lessOne (l : List Nat) (c : Nat) : List Nat := l.take c ++ l.drop (c + 1)
theorem without_call {n : Nat} (hn : 0 < n) (i : Sid) (l : List Nat) (c : Nat) (hc : c < l.length) (hl : l.length < 1000000) {Q : PV → Nat → List Nat → Prop}
    (hQ : ∀ (i : Sid) (n' : Nat), n ≤ n' → newSid n n' i → Q (.sl i 1 (i64s (lessOne l c))) n' []) : PCall Try.prog 32 [.sl i 1 (i64s l), .int .i64 c] n Q := by
  refine of32 hn ?_
  simp (disch := first | omega | (simp <;> omega) | fail) [c32]
  rw [AppK_gen (by omega)]
  refine ⟨by simp; omega, .inl rfl, by simp, ?_⟩
  have h1 : i64s l ≠ [] := by simp; intro h; subst h; simp at hc
  simp (disch := first | omega | (simp <;> omega) | fail) [h1]
  rw [AppK_gen (by omega)]
  refine ⟨by simp; omega, .inl rfl, by simp; omega, ?_⟩
  have h2 : (i64s l).take c ++ (i64s l).drop (c + 1) = i64s (lessOne l c) := by simp [lessOne, i64s, List.map_take, List.map_drop]
  have h3 : ((i64s l).drop (c + 1)).take (l.length - (c + 1)) = (i64s l).drop (c + 1) := by
    have := take_rest (i64s l) (c + 1); rwa [i64s_length] at this
  simpa (disch := omega) [h3, h2, show n ≤ n + 1 + 1 + 1 by omega] using hQ ⟨n, n + 2, 0⟩ (n + 3) (by omega) (.inr (by simp))

def pickR (M : List Rw) (l : List Nat) : List Rw := l.map fun j => M.getD j default
def someI (i ia : Sid) (M : List Rw) (l : List Nat) (n : Nat) (k : Nat) (s : St) : Prop :=
  ∃ (j nx : Nat) (o : Sid), j + k = l.length ∧ At s 23 [] nx [(0, .sl i 1 (M.map Rw.pv)), (5, .sl o 1 ((pickR M (l.take j)).map Rw.pv)), (8, .sl ia 1 (i64s l)), (9, .int .i64 l.length), (10, .int .i64 j)] ∧ Grow s.tips n nx o j ∧ n ≤ nx
theorem some_call {n : Nat} (hn : 0 < n) (i ia : Sid) (M : List Rw) (l : List Nat) (hM : M.length < 1000000) (hl : l.length < 1000000) (hi : ∀ j, j ∈ l → j < M.length) {Q : PV → Nat → List Nat → Prop}
    (hQ : ∀ (i : Sid) (n' : Nat), n ≤ n' → newSid n n' i → Q (.sl i 1 ((pickR M l).map Rw.pv)) n' []) : PCall Try.prog 45 [.sl i 1 (M.map Rw.pv), .sl ia 1 (i64s l)] n Q := by
  refine of45 hn ?_
  simp (disch := omega) [c45]
  refine GO_loopN (someI i ia M l n) l.length ⟨0, n, ⟨0, 0, 0⟩, by omega, by simp [At, pickR], .nil _ _ _, by omega⟩ ?_
  rintro k s ⟨j, nx, o, hj, ⟨e1, e2, e3, e4, e5⟩, hg, hnx⟩
  simp at e5
  obtain ⟨e5, e6, e7, e8, e9⟩ := e5
  by_cases hk : j < l.length
  · have hx := hi l[j] (List.getElem_mem _)
    obtain ⟨x, hx0⟩ : ∃ x, x = l[j] := ⟨_, rfl⟩
    rw [← hx0] at hx
    have hlj : l[j]? = some x := by rw [List.getElem?_eq_getElem hk, hx0]
    have hpl : (pickR M (l.take j)).length = j := by simp [pickR]; omega
    have hgd : l.getD j 0 = x := by simp [List.getD, hlj]
    simp (disch := omega) [c45L0, e1, e2, e3, e4, e5, e6, e7, e8, e9, hk, ← hx0, hx]
    refine AppK_one (L := j + 1) (by simp [e3]) ⟨s.tips, 1, by simp [e3], by simpa [hpl] using hg⟩ hnx hn (by simp [hpl]; omega) (by omega) (by simp [hpl]) fun tips i' h1 h2 h3 => ?_
    simp (disch := omega) [e1, e2, e3, e4, e5, e6, e7, e8, e9, hk]
    have hp : pickR M (l.take (j + 1)) = pickR M (l.take j) ++ [M[x]] := by
      rw [List.take_add_one, hlj]; simp [pickR, List.getD, hx]
    exact ⟨k - 1, by omega, j + 1, nx + 2, i', by omega, by simp [At, e1, e2, e3, e4, e5, e6, e7, e8, e9, hp], by simpa using h3, by omega⟩
  · have hjn : j = l.length := by omega
    subst hjn
    have hp : l.take l.length = l := List.take_length
    rw [hp] at e6
    simpa (disch := omega) [c45L0, c45R0, e1, e2, e3, e4, e5, e6, e7, e8, e9, hk, hnx] using hQ o nx hnx hg.sid

/-! ### places that rise -/
/-- Place j of a list is in its range, and above the one before. -/
def riseAt (l : List Int) (w : Int) (j : Nat) : Bool := decide (0 ≤ l.getD j 0) && decide (l.getD j 0 < w) && (decide (j = 0) || decide (l.getD (j - 1) 0 < l.getD j 0))
def riseB (l : List Int) (w : Int) : Bool := (List.range l.length).all (riseAt l w)
theorem riseB_false {l : List Int} {w : Int} {j : Nat} (hj : j < l.length) (h : riseAt l w j = false) : riseB l w = false := by
  unfold riseB
  rw [List.all_eq_false]
  exact ⟨j, by simpa using hj, by simp [h]⟩
theorem riseB_true {l : List Int} {w : Int} (h : ∀ j, j < l.length → riseAt l w j = true) : riseB l w = true := by
  unfold riseB
  rw [List.all_eq_true]
  exact fun j hj => h j (by simpa using hj)
def RisingI (i : Sid) (l : List Int) (w : Int) (n : Nat) (k : Nat) (s : St) : Prop :=
  ∃ j : Nat, j + k = l.length ∧ At s 41 [] n [(0, .sl i 1 (ints l)), (1, .int .i64 w), (5, .int .i64 j)] ∧ ∀ q, q < j → riseAt l w q = true
theorem Rising_call {n : Nat} (hn : 0 < n) (i : Sid) (l : List Int) (w : Int) (hl : l.length < 35184372088800) {Q : PV → Nat → List Nat → Prop}
    (hQ : Q (.bool (riseB l w)) n []) : PCall Try.prog 25 [.sl i 1 (ints l), .int .i64 w] n Q := by
  refine of25 hn ?_
  simp (disch := omega) [c25]
  refine GO_loopN (RisingI i l w n) l.length ⟨0, by omega, by simp [At], fun q hq => by omega⟩ ?_
  rintro k s ⟨j, hj, ⟨e1, e2, e3, e4, e5⟩, hr⟩
  simp at e5
  obtain ⟨e5, e6, e7⟩ := e5
  by_cases hk : j < l.length
  · obtain ⟨x, hx⟩ : ∃ x, x = l[j] := ⟨_, rfl⟩
    have hgx : l.getD j 0 = x := by simp [List.getD, hk, hx]
    have out : riseAt l w j = false → riseB l w = false := riseB_false hk
    by_cases h1 : x < 0
    · rw [out (by unfold riseAt; rw [hgx]; simp; omega)] at hQ
      simpa (disch := omega) [c25L0, e1, e2, e3, e4, e5, e6, e7, hk, ← hx, h1] using hQ
    · by_cases h2 : w ≤ x
      · rw [out (by unfold riseAt; rw [hgx]; simp; omega)] at hQ
        simpa (disch := omega) [c25L0, e1, e2, e3, e4, e5, e6, e7, hk, ← hx, h1, h2] using hQ
      · cases j with
        | zero =>
          simp (disch := omega) [c25L0, e1, e2, e3, e4, e5, e6, e7, hk, ← hx, h1, h2]
          exact ⟨k - 1, by omega, 1, by omega, by simp [At, e1, e2, e3, e4, e5, e6, e7], fun q hq => by
            obtain rfl : q = 0 := by omega
            unfold riseAt; rw [hgx]; simp; omega⟩
        | succ j =>
          obtain ⟨y, hy⟩ : ∃ y, y = l[j] := ⟨_, rfl⟩
          have hgy : l.getD j 0 = y := by simp [List.getD, show j < l.length by omega, hy]
          have hj0 : j < l.length := by omega
          have hw : IntKind.i64.wrap ((j : Int) + 1 - 1) = (j : Int) := by rw [Int.add_sub_cancel]; exact wrap_i64_nat _ (by omega)
          have hw2 : IntKind.i64.wrap ((j : Int) + 1 + 1) = (j : Int) + 1 + 1 := wrap_i64_id _ (by omega) (by omega)
          by_cases h3 : x ≤ y
          · rw [out (by unfold riseAt; rw [Nat.add_sub_cancel, hgx, hgy]; simp; omega)] at hQ
            simpa (disch := omega) [-wrap_i64_at, c25L0, e1, e2, e3, e4, e5, e6, e7, hk, ← hx, h1, h2, hw, hw2, hj0, ← hy, h3, show (j : Int) + 1 < l.length by omega, show 0 ≤ (j : Int) + 1 by omega, show ((j : Int) + 1).toNat = j + 1 by omega] using hQ
          · simp (disch := omega) [-wrap_i64_at, c25L0, e1, e2, e3, e4, e5, e6, e7, hk, ← hx, h1, h2, hw, hw2, hj0, ← hy, h3, show (j : Int) + 1 < l.length by omega, show 0 ≤ (j : Int) + 1 by omega, show ((j : Int) + 1).toNat = j + 1 by omega]
            refine ⟨k - 1, by omega, j + 2, by omega, by simp [At, e1, e2, e3, e4, e5, e6, e7, hw2]; omega, fun q hq => ?_⟩
            by_cases hq1 : q = j + 1
            · subst hq1
              unfold riseAt; rw [Nat.add_sub_cancel, hgx, hgy]; simp; omega
            · exact hr q (by omega)
  · rw [riseB_true fun q hq => hr q (by omega)] at hQ
    simpa (disch := omega) [c25L0, c25R0, e1, e2, e3, e4, e5, e6, e7, hk] using hQ
def risingI (i : Sid) (l : List Int) (w : Int) (n : Nat) (k : Nat) (s : St) : Prop :=
  ∃ j : Nat, j + k = l.length ∧ At s 35 [] n [(0, .sl i 1 (ints l)), (1, .int .i64 w), (7, .sl i 1 (ints l)), (8, .int .i64 l.length), (9, .int .i64 j)] ∧ ∀ q, q < j → riseAt l w q = true
theorem rising_call {n : Nat} (hn : 0 < n) (i : Sid) (l : List Int) (w : Int) (hl : l.length < 35184372088800) {Q : PV → Nat → List Nat → Prop}
    (hQ : Q (.bool (riseB l w)) n []) : PCall Try.prog 44 [.sl i 1 (ints l), .int .i64 w] n Q := by
  refine of44 hn ?_
  simp (disch := omega) [c44]
  refine GO_loopN (risingI i l w n) l.length ⟨0, by omega, by simp [At], fun q hq => by omega⟩ ?_
  rintro k s ⟨j, hj, ⟨e1, e2, e3, e4, e5⟩, hr⟩
  simp at e5
  obtain ⟨e5, e6, e7, e8, e9⟩ := e5
  by_cases hk : j < l.length
  · obtain ⟨x, hx⟩ : ∃ x, x = l[j] := ⟨_, rfl⟩
    have hgx : l.getD j 0 = x := by simp [List.getD, hk, hx]
    have out : riseAt l w j = false → riseB l w = false := riseB_false hk
    by_cases h1 : x < 0
    · rw [out (by unfold riseAt; rw [hgx]; simp; omega)] at hQ
      simpa (disch := omega) [c44L0, e1, e2, e3, e4, e5, e6, e7, e8, e9, hk, ← hx, h1] using hQ
    · by_cases h2 : w ≤ x
      · rw [out (by unfold riseAt; rw [hgx]; simp; omega)] at hQ
        simpa (disch := omega) [c44L0, e1, e2, e3, e4, e5, e6, e7, e8, e9, hk, ← hx, h1, h2] using hQ
      · cases j with
        | zero =>
          simp (disch := omega) [c44L0, e1, e2, e3, e4, e5, e6, e7, e8, e9, hk, ← hx, h1, h2]
          exact ⟨k - 1, by omega, 1, by omega, by simp [At, e1, e2, e3, e4, e5, e6, e7, e8, e9], fun q hq => by
            obtain rfl : q = 0 := by omega
            unfold riseAt; rw [hgx]; simp; omega⟩
        | succ j =>
          obtain ⟨y, hy⟩ : ∃ y, y = l[j] := ⟨_, rfl⟩
          have hgy : l.getD j 0 = y := by simp [List.getD, show j < l.length by omega, hy]
          have hj0 : j < l.length := by omega
          have hw : IntKind.i64.wrap ((j : Int) + 1 - 1) = (j : Int) := by rw [Int.add_sub_cancel]; exact wrap_i64_nat _ (by omega)
          have hw2 : IntKind.i64.wrap ((j : Int) + 1 + 1) = (j : Int) + 1 + 1 := wrap_i64_id _ (by omega) (by omega)
          by_cases h3 : x ≤ y
          · rw [out (by unfold riseAt; rw [Nat.add_sub_cancel, hgx, hgy]; simp; omega)] at hQ
            simpa (disch := omega) [-wrap_i64_at, c44L0, e1, e2, e3, e4, e5, e6, e7, e8, e9, hk, ← hx, h1, h2, hw, hw2, hj0, ← hy, h3, show (j : Int) + 1 < l.length by omega, show 0 ≤ (j : Int) + 1 by omega, show ((j : Int) + 1).toNat = j + 1 by omega] using hQ
          · simp (disch := omega) [-wrap_i64_at, c44L0, e1, e2, e3, e4, e5, e6, e7, e8, e9, hk, ← hx, h1, h2, hw, hw2, hj0, ← hy, h3, show (j : Int) + 1 < l.length by omega, show 0 ≤ (j : Int) + 1 by omega, show ((j : Int) + 1).toNat = j + 1 by omega]
            refine ⟨k - 1, by omega, j + 2, by omega, by simp [At, e1, e2, e3, e4, e5, e6, e7, e8, e9, hw2]; omega, fun q hq => ?_⟩
            by_cases hq1 : q = j + 1
            · subst hq1
              unfold riseAt; rw [Nat.add_sub_cancel, hgx, hgy]; simp; omega
            · exact hr q (by omega)
  · rw [riseB_true fun q hq => hr q (by omega)] at hQ
    simpa (disch := omega) [c44L0, c44R0, e1, e2, e3, e4, e5, e6, e7, e8, e9, hk] using hQ
end Go.Proofs.Ytcdkgeeookcoeaa
