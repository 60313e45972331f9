/- The small functions of layer 3, by value. -/
import Derived.Test.YtcdkgeeookcoeaaExA
import Derived.Test.YtcdkgeeookcoeaaBiA
set_option linter.unusedVariables false
set_option linter.unusedSimpArgs false
namespace Go.Proofs.Ytcdkgeeookcoeaa
open Go.Proofs

def widthR (M : List Rw) : Nat := match M with | [] => 0 | r :: _ => r.es.length
theorem width_call {n : Nat} (hn : 0 < n) (i : Sid) (M : List Rw) (hM : M.length < 35184372088800) (hw : widthR M < 35184372088800) {Q : PV → Nat → List Nat → Prop}
    (hQ : Q (.int .i64 (widthR M)) n []) : PCall Try.prog 34 [.sl i 1 (M.map Rw.pv)] n Q := by
  refine of34 hn ?_
  cases M with
  | nil => simpa (disch := omega) [c34, widthR] using hQ
  | cons r M =>
    simpa (disch := omega) [c34, widthR] using hQ
theorem RefWidth_call {n : Nat} (hn : 0 < n) (i : Sid) (M : List Rw) (hM : M.length < 35184372088800) (hw : widthR M < 35184372088800) {Q : PV → Nat → List Nat → Prop}
    (hQ : Q (.int .i64 (widthR M)) n []) : PCall Try.prog 26 [.sl i 1 (M.map Rw.pv)] n Q := by
  refine of26 hn ?_
  cases M with
  | nil => simpa (disch := omega) [c26, widthR] using hQ
  | cons r M =>
    simpa (disch := omega) [c26, widthR] using hQ
theorem zero_call {n : Nat} (hn : 0 < n) (e : Ent) (hl : e.l.length < 35184372088800) {Q : PV → Nat → List Nat → Prop}
    (hQ : Q (.bool (decide (e.l.length = 0))) n []) : PCall Try.prog 37 [e.pv] n Q := by
  refine of37 hn ?_
  simpa (disch := omega) [c37] using hQ

/-! ### places -/
/-- One element more behind a slice that grows. -/
theorem AppK_one {m by_ n nx L : Nat} {i i2 : Sid} {es : List PV} {p : PV} {s : St} {K : St → PV → Prop} (hnx : s.next = nx + 1) (ht : ∃ (tips : List (Nat × Nat × Nat)) (T : Nat), s.tips = (nx, nx, T) :: tips ∧ Grow tips n nx i (es.length * m)) (hn : n ≤ nx) (hn0 : 0 < n) (hl : (es.length + 1) * by_ ≤ 140737488355328) (hm : 0 < m)
    (hL : L = (es.length + 1) * m) (hK : ∀ (tips : List (Nat × Nat × Nat)) (i' : Sid), 0 < i'.g → i'.off = 0 → Grow tips n (nx + 2) i' L → K (s.bump (nx + 2) tips) (.sl i' m (es ++ [p]))) : AppK m by_ (.sl i m es) (.sl i2 m [p]) s K := by
  obtain ⟨tips, T, h1, h2⟩ := ht
  subst hL
  refine AppK_grow (n := n) (len := es.length * m) (by rw [h1, hnx]; exact (h2.cons (Nat.le_refl _)).mono (by omega)) rfl (by omega) hn0 (.inr rfl) (by simpa using hl) hm (by simp) fun tips' i' _ g1 g2 g3 => ?_
  rw [hnx] at g3 ⊢
  exact hK tips' i' (by omega) g2 (by simpa using g3)
/-- One element more, and other slices that grow go on growing. -/
theorem AppK_two {m by_ n nx L : Nat} {i i2 : Sid} {es : List PV} {p : PV} {s : St} {K : St → PV → Prop} {tips0 : List (Nat × Nat × Nat)} {T : Nat} (hnx : s.next = nx + 1) (ht : s.tips = (nx, nx, T) :: tips0) (ht2 : Grow tips0 n nx i (es.length * m)) (hn : n ≤ nx) (hn0 : 0 < n) (hl : (es.length + 1) * by_ ≤ 140737488355328) (hm : 0 < m)
    (hL : L = (es.length + 1) * m) (hK : ∀ (tips : List (Nat × Nat × Nat)) (i' : Sid), nx < i'.g → i'.off = 0 → Grow tips n (nx + 2) i' L → (∀ i2 len2, Grow tips0 n nx i2 len2 → i2.g = 0 ∨ i2.g ≠ i.g → Grow tips n (nx + 2) i2 len2) → K (s.bump (nx + 2) tips) (.sl i' m (es ++ [p]))) : AppK m by_ (.sl i m es) (.sl i2 m [p]) s K := by
  subst hL
  refine AppK_grow (n := n) (len := es.length * m) (by rw [ht, hnx]; exact (ht2.cons (Nat.le_refl _)).mono (by omega)) rfl (by omega) hn0 (.inr rfl) (by simpa using hl) hm (by simp) fun tips' i' g0 g1 g2 g3 => ?_
  rw [hnx] at g3 ⊢
  refine hK tips' i' (by omega) g2 (by simpa using g3) fun i3 l3 h3 h4 => ?_
  rcases h3 with h3 | ⟨q1, q2, q3, q4, q5, q6⟩
  · exact .inl h3
  · refine .inr ⟨q1, q2, ?_, q4, by omega, by omega⟩
    rw [g0 i3.g i3.f (by omega) (by omega), ht, tipOf_tail _ _ _ _ _ _ (by omega)]
    exact q3
def firstI (N n : Nat) (k : Nat) (s : St) : Prop :=
  ∃ (j nx : Nat) (i : Sid), j + k = N ∧ At s 15 [] nx [(3, .sl i 1 (i64s (List.range j))), (5, .int .i64 N), (6, .int .i64 j)] ∧ Grow s.tips n nx i j ∧ n ≤ nx
theorem first_call {n : Nat} (hn : 0 < n) (N : Nat) (hN : N < 1000000) {Q : PV → Nat → List Nat → Prop}
    (hQ : ∀ (i : Sid) (n' : Nat), n ≤ n' → newSid n n' i → Q (.sl i 1 (i64s (List.range N))) n' []) : PCall Try.prog 31 [.int .i64 N] n Q := by
  refine of31 hn ?_
  simp (disch := omega) [c31]
  refine GO_loopN (firstI N n) N ⟨0, n, ⟨0, 0, 0⟩, by omega, by simp [At], .nil _ _ _, by omega⟩ ?_
  rintro k s ⟨j, nx, i, hj, ⟨e1, e2, e3, e4, e5⟩, hg, hnx⟩
  simp at e5
  obtain ⟨e5, e6, e7⟩ := e5
  by_cases hk : j < N
  · simp (disch := omega) [c31L0, e1, e2, e3, e4, e5, e6, e7, hk]
    refine AppK_one (L := j + 1) (by simp [e3]) ⟨s.tips, 1, by simp [e3], by simpa using hg⟩ hnx hn (by simp; omega) (by omega) (by simp) fun tips i' h1 h2 h3 => ?_
    simp (disch := omega) [e1, e2, e3, e4, e5, e6, e7, hk, ← List.range_succ]
    exact ⟨k - 1, by omega, j + 1, nx + 2, i', by omega, by simp [At, e1, e2, e3, e4, e5, e6, e7], by simpa using h3, by omega⟩
  · have hjn : j = N := by omega
    subst hjn
    simpa (disch := omega) [c31L0, c31R0, e1, e2, e3, e4, e5, e6, e7, hk, hnx] using hQ i nx hnx hg.sid

def FirstI (N n : Nat) (k : Nat) (s : St) : Prop :=
  ∃ (j nx : Nat) (i : Sid), j + k = N ∧ At s 16 [] nx [(0, .int .i64 N), (3, .sl i 1 (i64s (List.range j))), (4, .int .i64 j)] ∧ Grow s.tips n nx i j ∧ n ≤ nx
theorem First_call {n : Nat} (hn : 0 < n) (N : Nat) (hN : N < 1000000) {Q : PV → Nat → List Nat → Prop}
    (hQ : ∀ (i : Sid) (n' : Nat), n ≤ n' → newSid n n' i → Q (.sl i 1 (i64s (List.range N))) n' []) : PCall Try.prog 15 [.int .i64 N] n Q := by
  refine of15 hn ?_
  simp (disch := omega) [c15]
  refine GO_loopN (FirstI N n) N ⟨0, n + 1, ⟨n, n, 0⟩, by omega, by simp [At], by simpa using Grow.fresh _ 0 (Nat.le_refl n) hn (Nat.lt_succ_self n), by omega⟩ ?_
  rintro k s ⟨j, nx, i, hj, ⟨e1, e2, e3, e4, e5⟩, hg, hnx⟩
  simp at e5
  obtain ⟨e5, e6, e7⟩ := e5
  by_cases hk : j < N
  · simp (disch := omega) [c15L0, e1, e2, e3, e4, e5, e6, e7, hk]
    refine AppK_one (L := j + 1) (by simp [e3]) ⟨s.tips, 1, by simp [e3], by simpa using hg⟩ hnx hn (by simp; omega) (by omega) (by simp) fun tips i' h1 h2 h3 => ?_
    simp (disch := omega) [e1, e2, e3, e4, e5, e6, e7, hk, ← List.range_succ]
    exact ⟨k - 1, by omega, j + 1, nx + 2, i', by omega, by simp [At, e1, e2, e3, e4, e5, e6, e7], by simpa using h3, by omega⟩
  · have hjn : j = N := by omega
    subst hjn
    simpa (disch := omega) [c15L0, c15R0, e1, e2, e3, e4, e5, e6, e7, hk, hnx] using hQ i nx hnx hg.sid

def placesI (x n : Nat) (k : Nat) (s : St) : Prop :=
  ∃ (j nx : Nat) (i : Sid), j + k = 6 ∧ At s 19 [] nx [(0, .int .i64 x), (3, .sl i 1 (i64s (bl j x))), (5, .int .i64 j)] ∧ Grow s.tips n nx i (bl j x).length ∧ n ≤ nx
theorem places_call {n : Nat} (hn : 0 < n) (x : Nat) (hx : x < 1000000) {Q : PV → Nat → List Nat → Prop}
    (hQ : ∀ (i : Sid) (n' : Nat), n ≤ n' → newSid n n' i → Q (.sl i 1 (i64s (bl 6 x))) n' []) : PCall Try.prog 52 [.int .i64 x] n Q := by
  refine of52 hn ?_
  simp (disch := omega) [c52]
  refine GO_loopN (placesI x n) 6 ⟨0, n, ⟨0, 0, 0⟩, by omega, by simp [At, bl], by simpa [bl] using Grow.nil _ _ _, by omega⟩ ?_
  rintro k s ⟨j, nx, i, hj, ⟨e1, e2, e3, e4, e5⟩, hg, hnx⟩
  simp at e5
  obtain ⟨e5, e6, e7⟩ := e5
  have hl := bl_le j x
  by_cases hk : j < 6
  · obtain ⟨q, hq1, hq2⟩ := bit_get (P := Try.prog) (P2 := Try.prog) (t := 3) (t2 := 3) (a := x) (i := j) (by omega) (by omega)
    by_cases hb : x.testBit j = true
    · simp only [hb] at hq2
      simp (disch := omega) [-binPV_shr, -binPV_and, hq1, hq2, c52L0, e1, e2, e3, e4, e5, e6, e7, hk, hb]
      refine AppK_one (L := (bl (j + 1) x).length) (by simp [e3]) ⟨s.tips, 1, by simp [e3], by simpa using hg⟩ hnx hn (by simp; omega) (by omega) (by rw [bl_succ, if_pos hb]; simp) fun tips i' h1 h2 h3 => ?_
      simp (disch := omega) [e1, e2, e3, e4, e5, e6, e7, hk]
      exact ⟨k - 1, by omega, j + 1, nx + 2, i', by omega, by simp [At, e1, e2, e3, e4, e5, e6, e7, bl_succ, hb], by simpa using h3, by omega⟩
    · simp only [hb] at hq2
      simp (disch := omega) [-binPV_shr, -binPV_and, hq1, hq2, c52L0, e1, e2, e3, e4, e5, e6, e7, hk, hb]
      exact ⟨k - 1, by omega, j + 1, nx, i, by omega, by simp [At, e1, e2, e3, e4, e5, e6, e7, bl_succ, hb], by simpa [bl_succ, hb] using hg, by omega⟩
  · have hjn : j = 6 := by omega
    subst hjn
    simpa (disch := omega) [c52L0, c52R0, e1, e2, e3, e4, e5, e6, e7, hk, hnx] using hQ i nx hnx hg.sid

/-! ### how many are 1 -/
theorem oc_all : ∀ x : Fin 64, (let a1 := x.1 / 2; let a2 := a1 &&& 6148914691236517205; let a3 := x.1 &&& 6148914691236517205; let y := a2 + a3; let a4 := y / 4; let a5 := a4 &&& 3689348814741910323; let a6 := y &&& 3689348814741910323; let z := a5 + a6; let a7 := z / 16; let a8 := a7 + z; let u := a8 &&& 1085102592571150095; let a9 := u / 256; let v := u + a9; let a10 := v / 65536; let q := v + a10; let a11 := q / 4294967296; let r := q + a11; (a1 < 100 ∧ a2 < 100 ∧ a3 < 100 ∧ y < 100 ∧ a4 < 100 ∧ a5 < 100 ∧ a6 < 100 ∧ z < 100 ∧ a7 < 100 ∧ a8 < 100 ∧ u < 100 ∧ a9 < 100 ∧ v < 100 ∧ a10 < 100 ∧ q < 100 ∧ a11 < 100 ∧ r < 100) ∧ r &&& 127 = (bl 6 x.1).length) := by decide +kernel
theorem OnesCount64_call {n : Nat} (hn : 0 < n) (x : Nat) (hx : x < 64) {Q : PV → Nat → List Nat → Prop}
    (hQ : Q (.int .i64 ((bl 6 x).length : Nat)) n []) : PCall Try.prog 51 [.int .u64 x] n Q := by
  refine of51 hn ?_
  have h := oc_all ⟨x, hx⟩
  simp only at h
  obtain ⟨a1, ha1⟩ : ∃ a1 : Nat, a1 = x / 2 := ⟨_, rfl⟩
  rw [← ha1] at h
  obtain ⟨a2, ha2⟩ : ∃ a2 : Nat, a2 = a1 &&& 6148914691236517205 := ⟨_, rfl⟩
  rw [← ha2] at h
  obtain ⟨a3, ha3⟩ : ∃ a3 : Nat, a3 = x &&& 6148914691236517205 := ⟨_, rfl⟩
  rw [← ha3] at h
  obtain ⟨y, hy⟩ : ∃ y : Nat, y = a2 + a3 := ⟨_, rfl⟩
  rw [← hy] at h
  obtain ⟨a4, ha4⟩ : ∃ a4 : Nat, a4 = y / 4 := ⟨_, rfl⟩
  rw [← ha4] at h
  obtain ⟨a5, ha5⟩ : ∃ a5 : Nat, a5 = a4 &&& 3689348814741910323 := ⟨_, rfl⟩
  rw [← ha5] at h
  obtain ⟨a6, ha6⟩ : ∃ a6 : Nat, a6 = y &&& 3689348814741910323 := ⟨_, rfl⟩
  rw [← ha6] at h
  obtain ⟨z, hz⟩ : ∃ z : Nat, z = a5 + a6 := ⟨_, rfl⟩
  rw [← hz] at h
  obtain ⟨a7, ha7⟩ : ∃ a7 : Nat, a7 = z / 16 := ⟨_, rfl⟩
  rw [← ha7] at h
  obtain ⟨a8, ha8⟩ : ∃ a8 : Nat, a8 = a7 + z := ⟨_, rfl⟩
  rw [← ha8] at h
  obtain ⟨u, hu⟩ : ∃ u : Nat, u = a8 &&& 1085102592571150095 := ⟨_, rfl⟩
  rw [← hu] at h
  obtain ⟨a9, ha9⟩ : ∃ a9 : Nat, a9 = u / 256 := ⟨_, rfl⟩
  rw [← ha9] at h
  obtain ⟨v, hv⟩ : ∃ v : Nat, v = u + a9 := ⟨_, rfl⟩
  rw [← hv] at h
  obtain ⟨a10, ha10⟩ : ∃ a10 : Nat, a10 = v / 65536 := ⟨_, rfl⟩
  rw [← ha10] at h
  obtain ⟨q, hq⟩ : ∃ q : Nat, q = v + a10 := ⟨_, rfl⟩
  rw [← hq] at h
  obtain ⟨a11, ha11⟩ : ∃ a11 : Nat, a11 = q / 4294967296 := ⟨_, rfl⟩
  rw [← ha11] at h
  obtain ⟨r, hr⟩ : ∃ r : Nat, r = q + a11 := ⟨_, rfl⟩
  rw [← hr] at h
  obtain ⟨⟨bda1, bda2, bda3, bdy, bda4, bda5, bda6, bdz, bda7, bda8, bdu, bda9, bdv, bda10, bdq, bda11, bdr⟩, he⟩ := h
  have sa1 : binPV Try.prog .shr 70 (.int .u64 (x : Nat)) (.int .u64 1) = some (.int .u64 (a1 : Nat)) := by
    rw [ha1]; exact (by have := shr_nat_lit (P := Try.prog) (t := 70) (k := .u64) (k' := .u64) (a := x) (n := 1) (by decide); exact this)
  have sa2 : binPV Try.prog .and 70 (.int .u64 (a1 : Nat)) (.int .u64 6148914691236517205) = some (.int .u64 (a2 : Nat)) := by
    rw [ha2]; exact (and_u64_lit (by omega) (by decide))
  have sa3 : binPV Try.prog .and 70 (.int .u64 (x : Nat)) (.int .u64 6148914691236517205) = some (.int .u64 (a3 : Nat)) := by
    rw [ha3]; exact (and_u64_lit (by omega) (by decide))
  have sy : binPV Try.prog .add 70 (.int .u64 (a2 : Nat)) (.int .u64 (a3 : Nat)) = some (.int .u64 (y : Nat)) := by
    rw [hy]; exact (by rw [binPV_add]; congr 2; exact wrap_u64_nat _ (by omega))
  have sa4 : binPV Try.prog .shr 70 (.int .u64 (y : Nat)) (.int .u64 2) = some (.int .u64 (a4 : Nat)) := by
    rw [ha4]; exact (by have := shr_nat_lit (P := Try.prog) (t := 70) (k := .u64) (k' := .u64) (a := y) (n := 2) (by decide); exact this)
  have sa5 : binPV Try.prog .and 70 (.int .u64 (a4 : Nat)) (.int .u64 3689348814741910323) = some (.int .u64 (a5 : Nat)) := by
    rw [ha5]; exact (and_u64_lit (by omega) (by decide))
  have sa6 : binPV Try.prog .and 70 (.int .u64 (y : Nat)) (.int .u64 3689348814741910323) = some (.int .u64 (a6 : Nat)) := by
    rw [ha6]; exact (and_u64_lit (by omega) (by decide))
  have sz : binPV Try.prog .add 70 (.int .u64 (a5 : Nat)) (.int .u64 (a6 : Nat)) = some (.int .u64 (z : Nat)) := by
    rw [hz]; exact (by rw [binPV_add]; congr 2; exact wrap_u64_nat _ (by omega))
  have sa7 : binPV Try.prog .shr 70 (.int .u64 (z : Nat)) (.int .u64 4) = some (.int .u64 (a7 : Nat)) := by
    rw [ha7]; exact (by have := shr_nat_lit (P := Try.prog) (t := 70) (k := .u64) (k' := .u64) (a := z) (n := 4) (by decide); exact this)
  have sa8 : binPV Try.prog .add 70 (.int .u64 (a7 : Nat)) (.int .u64 (z : Nat)) = some (.int .u64 (a8 : Nat)) := by
    rw [ha8]; exact (by rw [binPV_add]; congr 2; exact wrap_u64_nat _ (by omega))
  have su : binPV Try.prog .and 70 (.int .u64 (a8 : Nat)) (.int .u64 1085102592571150095) = some (.int .u64 (u : Nat)) := by
    rw [hu]; exact (and_u64_lit (by omega) (by decide))
  have sa9 : binPV Try.prog .shr 70 (.int .u64 (u : Nat)) (.int .u64 8) = some (.int .u64 (a9 : Nat)) := by
    rw [ha9]; exact (by have := shr_nat_lit (P := Try.prog) (t := 70) (k := .u64) (k' := .u64) (a := u) (n := 8) (by decide); exact this)
  have sv : binPV Try.prog .add 70 (.int .u64 (u : Nat)) (.int .u64 (a9 : Nat)) = some (.int .u64 (v : Nat)) := by
    rw [hv]; exact (by rw [binPV_add]; congr 2; exact wrap_u64_nat _ (by omega))
  have sa10 : binPV Try.prog .shr 70 (.int .u64 (v : Nat)) (.int .u64 16) = some (.int .u64 (a10 : Nat)) := by
    rw [ha10]; exact (by have := shr_nat_lit (P := Try.prog) (t := 70) (k := .u64) (k' := .u64) (a := v) (n := 16) (by decide); exact this)
  have sq : binPV Try.prog .add 70 (.int .u64 (v : Nat)) (.int .u64 (a10 : Nat)) = some (.int .u64 (q : Nat)) := by
    rw [hq]; exact (by rw [binPV_add]; congr 2; exact wrap_u64_nat _ (by omega))
  have sa11 : binPV Try.prog .shr 70 (.int .u64 (q : Nat)) (.int .u64 32) = some (.int .u64 (a11 : Nat)) := by
    rw [ha11]; exact (by have := shr_nat_lit (P := Try.prog) (t := 70) (k := .u64) (k' := .u64) (a := q) (n := 32) (by decide); exact this)
  have sr : binPV Try.prog .add 70 (.int .u64 (q : Nat)) (.int .u64 (a11 : Nat)) = some (.int .u64 (r : Nat)) := by
    rw [hr]; exact (by rw [binPV_add]; congr 2; exact wrap_u64_nat _ (by omega))
  have sr2 : IntKind.i64.wrap (r : Int) = (r : Int) := wrap_i64_nat r (by omega)
  have sr3 : binPV Try.prog .and 3 (.int .i64 (r : Int)) (.int .i64 127) = some (.int .i64 ((bl 6 x).length : Nat)) := by
    rw [← he]; exact and_i64_lit (by omega) (by decide)
  simpa (disch := omega) [c51, -binPV_shr, -binPV_and, -binPV_add, sa1, sa2, sa3, sy, sa4, sa5, sa6, sz, sa7, sa8, su, sa9, sv, sa10, sq, sa11, sr, sr2, sr3] using hQ
theorem OnesCount_call {n : Nat} (hn : 0 < n) (x : Nat) (hx : x < 64) {Q : PV → Nat → List Nat → Prop}
    (hQ : Q (.int .i64 ((bl 6 x).length : Nat)) n []) : PCall Try.prog 33 [.int .u64 x] n Q := by
  refine of33 hn ?_
  simp (disch := omega) [c33]
  refine CallK.of (by simp) (OnesCount64_call hn x hx ?_)
  simpa using hQ
end Go.Proofs.Ytcdkgeeookcoeaa
