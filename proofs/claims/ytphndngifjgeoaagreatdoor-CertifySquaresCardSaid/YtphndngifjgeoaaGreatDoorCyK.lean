/- The document's sums and products of exact numbers, its dot products, rows and columns, by value. -/
import Derived.Test.YtphndngifjgeoaaGreatDoorCyJ
set_option linter.unusedVariables false
set_option linter.unusedSimpArgs false
set_option maxRecDepth 20000
set_option maxHeartbeats 4000000
namespace Go.Proofs.YtphndngifjgeoaaGreatDoor
open Go.Proofs

theorem RAdd_V {n : Nat} (hn : 0 < n) (L v w s : Int) (k : Nat) (ia ib : Sid) (hia : ia.f < n) (hib : ib.f < n) (hv : sz v k) (hw : sz w k) (hk : k ≤ 511) (hL : -16384 ≤ L ∧ L + 32 * k ≤ 16384) (hs : v + w = s) {Q : PV → Nat → List Nat → Prop}
    (hQ : ∀ (i' : Sid) (n' : Nat), n ≤ n' → i'.f < n' → Q (NV L s i') n' []) : PCall Tryz.prog 31 [NV L v ia, NV L w ib] n Q := by
  subst hs
  obtain ⟨a1, b2, b3, b4⟩ := low_V (L := L) hv hw hk
  refine RefAddD2_call hn (dyM v) (dyM w) (dyE v L) (dyE w L) ia ib hia hib ((sz_dyM hv).mono (by omega)) ((sz_dyM hw).mono (by omega)) (fun h => dyE_zero h) (fun h => dyE_zero h) (dyE_range hv hL) (dyE_range hw hL) a1 b4 fun i' n' g b => ?_
  have := hQ i' n' g b
  simp only [NV, ← b2, ← b3] at this
  exact this
theorem RMul_V {n : Nat} (hn : 0 < n) (L L2 v w s : Int) (ia ib : Sid) (hia : ia.f < n) (hib : ib.f < n) (k m : Nat) (hv : sz v k) (hw : sz w m) (hk : k + m ≤ 512) (hL : -16384 ≤ L ∧ L + 32 * k ≤ 16384) (hL2 : -16384 ≤ L2 ∧ L2 + 32 * m ≤ 16384) (hs : v * w = s) {Q : PV → Nat → List Nat → Prop}
    (hQ : ∀ (i' : Sid) (n' : Nat), n ≤ n' → i'.f < n' → Q (NV (L + L2) s i') n' []) : PCall Tryz.prog 32 [NV L v ia, NV L2 w ib] n Q := by
  subst hs
  obtain ⟨p1, p2⟩ := prod_V v w L L2
  have e1 := dyE_range hv hL
  have e2 := dyE_range hw hL2
  obtain ⟨z, hz⟩ : ∃ z, z = dyM v * dyM w := ⟨_, rfl⟩
  have sz' : sz z 512 := by rw [hz]; exact ((sz_dyM hv).mul (sz_dyM hw)).mono hk
  have hl1 := (sz_dyM hv).len
  have hl2 := (sz_dyM hw).len
  rw [← hz] at p1 p2
  obtain ⟨e, he⟩ : ∃ e, e = dyE v L := ⟨_, rfl⟩
  obtain ⟨f, hf⟩ : ∃ f, f = dyE w L2 := ⟨_, rfl⟩
  simp only [NV] at hQ ⊢
  rw [← p1, ← p2] at hQ
  rw [← he, ← hf] at hQ ⊢
  rw [← he] at e1
  rw [← hf] at e2
  have hw1 : IntKind.i64.wrap (e + f) = e + f := wrap_i64_is rfl (by omega)
  refine of32 hn ?_
  simp (disch := omega) [-wrap_i64_at, c32, hw1]
  refine CallK.of (by simp) (refMul_call (by omega) _ _ ia ib _ _ (by omega) (by omega) (Lim.dig _) (Lim.dig _) z (by rw [numW_dig, numW_dig, hz]) fun i1 n1 g1 d1 => ?_)
  simp (disch := omega) [-wrap_i64_at, g1, hw1]
  refine CallK.of (by simp) (RefOfD2_call (by omega) z (e + f) i1 (newSid_lt d1 (by omega)) (sz'.mono (by omega)) hw1 fun i2 n2 g2 b2 => ?_)
  have := hQ i2 n2 (by omega) b2
  rw [wrapE sz' (by omega)]
  unfold dyE at this
  simp only [D] at this
  simpa (disch := omega) [-wrap_i64_at, g1, g2] using ⟨by omega, this⟩
theorem RValue_V {n : Nat} (hn : 0 < n) (b : Nat) (hb : b < 18446744073709551616) {Q : PV → Nat → List Nat → Prop}
    (hQ : ∀ (i : Sid) (n' : Nat), n ≤ n' → i.f < n' → Q (NV (-1074) (uV b) i) n' []) : PCall Tryz.prog 47 [.int .u64 b] n Q :=
  RefValue2_call hn b hb fun i n' g h => by rw [uV_NV]; exact hQ i n' g h

/-! ### dot products -/
def dotF (x y : List Nat) (j : Nat) : Int := fv x j * fv y j
def dotI (ix iy : Sid) (x y : List Nat) (n : Nat) (k : Nat) (s : St) : Prop :=
  ∃ (j nx : Nat) (S : Int) (iS : Sid) (r0 : List PV), j + k = x.length ∧ r0.length = 3 ∧ At s 28 [r0, NC (-2148) S iS] nx [(0, .sl ix 1 (bts x)), (1, .sl iy 1 (bts y)), (4, .box 0 0), (5, .box 1 0), (6, .int .i64 j)] ∧ n ≤ nx ∧ iS.f < nx ∧ S = sumN (dotF x y) j
theorem sz_dot (x y : List Nat) (j : Nat) : sz (sumN (dotF x y) j) (132 + j) := sz_sumN j fun q _ => (sz_fv x q).mul (sz_fv y q)
theorem Dot_call {n : Nat} (hn : 0 < n) (ix iy : Sid) (x y : List Nat) (hx : x.length ≤ 40) (hxy : x.length ≤ y.length) (hy : y.length < 1000000) (bx : Bt x) (by_ : Bt y) {Q : PV → Nat → List Nat → Prop}
    (hQ : ∀ (i' : Sid) (n' : Nat), n ≤ n' → i'.f < n' → Q (NV (-2148) (sumN (dotF x y) x.length) i') n' []) : PCall Tryz.prog 26 [.sl ix 1 (bts x), .sl iy 1 (bts y)] n Q := by
  refine of26 hn ?_
  simp (disch := omega) [c26]
  refine GO_loopN (dotI ix iy x y n) x.length ⟨0, n, 0, ⟨0, 0, 0⟩, [.bool false, .sl ⟨0, 0, 0⟩ 1 [], .int .i64 0], by omega, rfl, by rw [NC_zero]; simp [At], Nat.le_refl _, hn, rfl⟩ ?_
  rintro k s ⟨j, nx, S, iS, r0, hj, hr0, ⟨e1, e2, e3, e4, e5⟩, hnx, hiS, hS⟩
  simp at e5
  obtain ⟨e5, e6, e7, e8, e9⟩ := e5
  have hSs := sz_dot x y j
  rw [← hS] at hSs
  by_cases hk : j < x.length
  · obtain ⟨a, ha⟩ : ∃ a, a = x[j] := ⟨_, rfl⟩
    obtain ⟨b, hb⟩ : ∃ b, b = y[j] := ⟨_, rfl⟩
    have hjy : j < y.length := by omega
    have hab : dotF x y j = uV a * uV b := by unfold dotF fv; simp [List.getD, hk, hjy, ha, hb]
    simp (disch := omega) [c26L0, e1, e2, e3, e4, e5, e6, e7, e8, e9, hk, hjy, ← ha, ← hb]
    refine CallK.of (by simp) (RValue_V (by omega) a (by rw [ha]; exact bx.get hk) fun i1 n1 g1 b1 => ?_)
    simp (disch := omega) [e1, e2, e3, e4, e5, e6, e7, e8, e9, hk, hjy, ← ha, ← hb, g1]
    refine CallK.of (by simp) (RValue_V (by omega) b (by rw [hb]; exact by_.get hjy) fun i2 n2 g2 b2 => ?_)
    simp (disch := omega) [e1, e2, e3, e4, e5, e6, e7, e8, e9, g1, g2]
    refine CallK.of (by simp) (RMul_V (by omega) (-1074) (-1074) (uV a) (uV b) (uV a * uV b) i1 i2 (by omega) (by omega) 66 66 (sz_uV a) (sz_uV b) (by omega) (by omega) (by omega) rfl fun i3 n3 g3 b3 => ?_)
    have hp : sz (uV a * uV b) 132 := (sz_uV a).mul (sz_uV b)
    obtain ⟨p, hpd⟩ : ∃ p, p = uV a * uV b := ⟨_, rfl⟩
    rw [← hpd] at hp hab ⊢
    rw [show (-1074 : Int) + -1074 = -2148 by omega]
    simp (disch := omega) [e1, e2, e3, e4, e5, e6, e7, e8, e9, g1, g2, g3]
    refine CallK.of (by simp) (RAdd_V (by omega) (-2148) S p (S + p) (132 + j) iS i3 (by omega) (by omega) hSs (hp.mono (by omega)) (by omega) (by omega) rfl fun i4 n4 g4 b4 => ?_)
    simp (disch := omega) [e1, e2, e3, e4, e5, e6, e7, e8, e9, g1, g2, g3, g4]
    exact ⟨k - 1, by omega, j + 1, n4, S + p, i4, r0, by omega, hr0, by simp [At, e1, e2, e3, e4, e5, e6, e7, e8, e9], by omega, b4, by rw [hS]; simp only [sumN]; rw [hab]⟩
  · have hjl : j = x.length := by omega
    have := hQ iS nx hnx hiS
    rw [← hjl, ← hS] at this
    simp only [NV, D] at this
    simpa (disch := omega) [c26L0, c26R0, e1, e2, e3, e4, e5, e6, e7, e8, e9, hk, hnx, hr0] using this
theorem bts_part (l : List Nat) (a b : Nat) : ((bts l).drop a).take b = bts ((l.drop a).take b) := by simp [bts, List.map_take, List.map_drop]
def colL (r c : Nat) (l : List Nat) (k : Nat) : List Nat := (List.range r).map fun i => l.getD (i * c + k) 0
def colI (M0 : List PV) (r c : Nat) (l : List Nat) (k n : Nat) (kk : Nat) (s : St) : Prop :=
  ∃ (j nx : Nat) (o : Sid), j + kk = r ∧ At s 25 [M0] nx [(1, .int .i64 k), (3, .box 0 0), (7, .sl o 1 (bts (colL j c l k))), (8, .int .i64 j)] ∧ Grow s.tips n nx o j ∧ n ≤ nx
theorem colL_succ (j c : Nat) (l : List Nat) (k : Nat) : colL (j + 1) c l k = colL j c l k ++ [l.getD (j * c + k) 0] := by
  unfold colL; rw [List.range_succ, List.map_append]; rfl
theorem colL_len (j c : Nat) (l : List Nat) (k : Nat) : (colL j c l k).length = j := by simp [colL]
theorem bts_snoc (l : List Nat) (x : Nat) : bts l ++ [PV.int .u64 (x : Int)] = bts (l ++ [x]) := by simp [bts]
theorem Col_call {n : Nat} (hn : 0 < n) (r c : Nat) (i : Sid) (l : List Nat) (k : Nat) (hl : l.length = r * c) (h6 : r ≤ 6 ∧ c ≤ 6) (hk : k < c) {Q : PV → Nat → List Nat → Prop}
    (hQ : ∀ (o : Sid) (n' : Nat), n ≤ n' → Q (.sl o 1 (bts (colL r c l k))) n' []) : PCall Tryz.prog 27 [Mx r c i l, .int .i64 (k : Int), .int .i64 0] n Q := by
  have hl36 : l.length ≤ 36 := by rw [hl]; exact Nat.mul_le_mul h6.1 h6.2
  refine of27 hn ?_
  simp (disch := omega) [c27]
  refine GO_loopN (colI [.int .i64 (r : Int), .int .i64 (c : Int), .sl i 1 (bts l)] r c l k n) r ⟨0, n + 1, ⟨n, n, 0⟩, by omega, by simp [At, colL, bts], by simpa using Grow.fresh _ 0 (Nat.le_refl n) hn (Nat.lt_succ_self n), by omega⟩ ?_
  rintro kk s ⟨j, nx, o, hj, ⟨e1, e2, e3, e4, e5⟩, hg, hnx⟩
  simp at e5
  obtain ⟨e5, e6, e7, e8⟩ := e5
  by_cases hk1 : j < r
  · have hq : j * c + k < l.length := by rw [hl]; exact lt_mul_of hk1 hk
    obtain ⟨x, hx⟩ : ∃ x, x = l[j * c + k] := ⟨_, rfl⟩
    have hgx : l[j * c + k]?.getD 0 = x := by simp [hq, hx]
    simp (disch := omega) [c27L0, e1, e2, e3, e4, e5, e6, e7, e8, hk1]
    refine CallK.of (by simp) (At_call (by omega) r c i l j k (j * c + k) rfl hq (by omega) x hx.symm ?_)
    simp (disch := omega) [e1, e2, e3, e4, e5, e6, e7, e8]
    refine AppK_z (n := n) (nx := nx) (len := j) (tips0 := s.tips) (T := 1) (by simp [e3]) (by simp [e3]) hg (by simp [colL_len]) (.inr rfl) (by omega) hn (by simp [colL_len]; omega) (by omega) fun tips i' h1 h2 h3 h4 => ?_
    simp (disch := omega) [e1, e2, e3, e4, e5, e6, e7, e8]
    exact ⟨kk - 1, by omega, j + 1, nx + 2, i', by omega, by simp [At, e1, e2, e3, e4, e5, e6, e7, e8, colL_succ, bts_snoc, hgx], by simpa using h3, by omega⟩
  · have hjr : j = r := by omega
    subst hjr
    have := hQ o nx hnx
    simpa (disch := omega) [c27L0, c27R0, e1, e2, e3, e4, e5, e6, e7, e8, hnx] using this
theorem fv_row (l : List Nat) (a c j : Nat) (hj : j < c) (hl : a * c + c ≤ l.length) : fv ((l.drop (a * c)).take c) j = fv l (a * c + j) := by
  unfold fv
  congr 1
  simp only [List.getD, List.getElem?_take, List.getElem?_drop]
  rw [if_pos hj]
theorem fv_col (r c : Nat) (l : List Nat) (k j : Nat) (hj : j < r) : fv (colL r c l k) j = fv l (j * c + k) := by
  unfold fv colL
  congr 1
  simp [List.getD, hj]
theorem Bt.part {l : List Nat} (h : Bt l) (a b : Nat) : Bt ((l.drop a).take b) := fun x hx => h x (List.mem_of_mem_drop (List.mem_of_mem_take hx))
theorem Bt.col {l : List Nat} (h : Bt l) (r c k : Nat) : Bt (colL r c l k) := fun x hx => by
  unfold colL at hx
  obtain ⟨i, _, rfl⟩ := List.mem_map.1 hx
  by_cases hq : i * c + k < l.length
  · simp only [List.getD, List.getElem?_eq_getElem hq, Option.getD_some]; exact h.get hq
  · rw [getD_ge (by omega)]; omega
theorem dot_pd {rb cb cc : Nat} {lb lc : List Nat} (hl : lb.length = rb * cb) (i k : Nat) (hi : i < rb) (h : ((lb.drop (i * cb)).take cb).length = cb) : sumN (dotF ((lb.drop (i * cb)).take cb) (colL cb cc lc k)) ((lb.drop (i * cb)).take cb).length = pdF cb cc lb lc i k := by
  rw [h]
  unfold pdF
  have hle : i * cb + cb ≤ lb.length := by
    rw [hl]
    have : (i + 1) * cb ≤ rb * cb := Nat.mul_le_mul_right _ hi
    rw [Nat.add_mul] at this; omega
  refine sumN_congr _ fun j hj => ?_
  unfold dotF
  rw [fv_row lb i cb j hj hle, fv_col cb cc lc k j hj]
end Go.Proofs.YtphndngifjgeoaaGreatDoor
