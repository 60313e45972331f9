/- The document's square of a residual, by value. -/
import Derived.Test.YtphndngifjgeoaaDoorCyK
set_option linter.unusedVariables false
set_option linter.unusedSimpArgs false
set_option maxRecDepth 20000
set_option maxHeartbeats 4000000
namespace Go.Proofs.YtphndngifjgeoaaDoor
open Go.Proofs
def rsQ (cb cc : Nat) (la lb lc : List Nat) (q : Nat) : Int := rsD cb cc la lb lc q * rsD cb cc la lb lc q
theorem rsS_eq (cb cc : Nat) (la lb lc : List Nat) : rsS cb cc la lb lc = sumN (rsQ cb cc la lb lc) la.length := rfl
theorem sz_pdF (cb cc : Nat) (lb lc : List Nat) (i k : Nat) : sz (pdF cb cc lb lc i k) (132 + cb) := sz_sumN _ fun q _ => (sz_fv _ _).mul (sz_fv _ _)
theorem sz_rsD (cb cc : Nat) (hc : cb ≤ 6) (la lb lc : List Nat) (q : Nat) : sz (rsD cb cc la lb lc q) 139 := by
  unfold rsD
  exact ((sz_up (sz_fv _ _)).mono (by omega)).sub ((sz_pdF _ _ _ _ _ _).mono (by omega))
theorem sz_rsQ (cb cc : Nat) (hc : cb ≤ 6) (la lb lc : List Nat) (q : Nat) : sz (rsQ cb cc la lb lc q) 278 := (sz_rsD cb cc hc la lb lc q).mul (sz_rsD cb cc hc la lb lc q)
theorem NV_up (v : Int) (i : Sid) : NV (-1074) v i = NV (-2148) (v * 2 ^ e74) i := by
  rw [NV_units (-1074) v e74]
  rfl
theorem rsD_at {cb cc : Nat} {la lb lc : List Nat} {i j : Nat} (hj : j < cc) : rsD cb cc la lb lc (i * cc + j) = fv la (i * cc + j) * 2 ^ e74 - pdF cb cc lb lc i j := by
  unfold rsD
  rw [show (i * cc + j) / cc = i by rw [Nat.mul_comm, Nat.mul_add_div (by omega), Nat.div_eq_of_lt hj]; omega, show (i * cc + j) % cc = j by rw [Nat.mul_comm, Nat.mul_add_mod, Nat.mod_eq_of_lt hj]]
def rrI (M0 M1 M2 : List PV) (ra cc : Nat) (f : Nat → Int) (n : Nat) (k : Nat) (s : St) : Prop :=
  ∃ (i nx : Nat) (S : Int) (iS : Sid) (r0 : List PV) (C : List (List PV)), i + k = ra ∧ r0.length = 3 ∧ At s 43 (M0 :: M1 :: M2 :: r0 :: NC (-4296) S iS :: C) nx [(3, .box 0 0), (4, .box 1 0), (5, .box 2 0), (6, .box 3 0), (7, .box 4 0), (8, .int .i64 i)] ∧ n ≤ nx ∧ iS.f < nx ∧ S = sumN f (i * cc)
def rrJ (M0 M1 M2 : List PV) (cc : Nat) (f : Nat → Int) (n i : Nat) (k : Nat) (s : St) : Prop :=
  ∃ (j nx : Nat) (S : Int) (iS : Sid) (r0 : List PV) (C : List (List PV)), j + k = cc ∧ r0.length = 3 ∧ At s 43 (M0 :: M1 :: M2 :: r0 :: NC (-4296) S iS :: C) nx [(3, .box 0 0), (4, .box 1 0), (5, .box 2 0), (6, .box 3 0), (7, .box 4 0), (8, .int .i64 i), (9, .int .i64 j)] ∧ n ≤ nx ∧ iS.f < nx ∧ S = sumN f (i * cc + j)
theorem RefResidual_call {n : Nat} (hn : 0 < n) (ra cb cc : Nat) (ia ib ic : Sid) (la lb lc : List Nat) (hla : la.length = ra * cc) (hlb : lb.length = ra * cb) (hlc : lc.length = cb * cc) (h6 : ra ≤ 6 ∧ cb ≤ 6 ∧ cc ≤ 6) (ba : Bt la) (bb : Bt lb) (bc : Bt lc) {Q : PV → Nat → List Nat → Prop}
    (hQ : ∀ (i' : Sid) (n' : Nat), n ≤ n' → i'.f < n' → Q (NV (-4296) (rsS cb cc la lb lc) i') n' []) : PCall Tryd.prog 21 [Mx (ra : Int) (cc : Int) ia la, Mx (ra : Int) (cb : Int) ib lb, Mx (cb : Int) (cc : Int) ic lc] n Q := by
  have hla36 : la.length ≤ 36 := by rw [hla]; exact Nat.mul_le_mul h6.1 h6.2.2
  have hlb36 : lb.length ≤ 36 := by rw [hlb]; exact Nat.mul_le_mul h6.1 h6.2.1
  have hlc36 : lc.length ≤ 36 := by rw [hlc]; exact Nat.mul_le_mul h6.2.1 h6.2.2
  refine of21 hn ?_
  simp (disch := omega) [c21]
  refine GO_loopN (rrI [.int .i64 (ra : Int), .int .i64 (cc : Int), .sl ia 1 (bts la)] [.int .i64 (ra : Int), .int .i64 (cb : Int), .sl ib 1 (bts lb)] [.int .i64 (cb : Int), .int .i64 (cc : Int), .sl ic 1 (bts lc)] ra cc (rsQ cb cc la lb lc) n) ra ⟨0, n, 0, ⟨0, 0, 0⟩, [.bool false, .sl ⟨0, 0, 0⟩ 1 [], .int .i64 0], [], by omega, rfl, by rw [NC_zero]; simp [At], Nat.le_refl _, hn, by simp [sumN]⟩ ?_
  rintro k s ⟨i, nx, S, iS, r0, C, hi, hr0, ⟨e1, e2, e3, e4, e5⟩, hnx, hiS, hS⟩
  simp at e5
  obtain ⟨e5, e6, e7, e8, e9, e10⟩ := e5
  by_cases hk : i < ra
  · simp (disch := omega) [c21L1, e1, e2, e3, e4, e5, e6, e7, e8, e9, e10, hk]
    refine GO_loopN (rrJ [.int .i64 (ra : Int), .int .i64 (cc : Int), .sl ia 1 (bts la)] [.int .i64 (ra : Int), .int .i64 (cb : Int), .sl ib 1 (bts lb)] [.int .i64 (cb : Int), .int .i64 (cc : Int), .sl ic 1 (bts lc)] cc (rsQ cb cc la lb lc) n i) cc ⟨0, nx, S, iS, r0, C, by omega, hr0, by simp [At, e1, e2, e3, e4, e5, e6, e7, e8, e9, e10], hnx, hiS, by simpa using hS⟩ ?_
    clear e1 e2 e3 e4 e5 e6 e7 e8 e9 e10 hS hiS hnx hr0
    clear s S iS r0 C nx
    rintro k2 s ⟨j, nx, S, iS, r0, C, hj, hr0, ⟨e1, e2, e3, e4, e5⟩, hnx, hiS, hS⟩
    simp at e5
    obtain ⟨e5, e6, e7, e8, e9, e10, e11⟩ := e5
    by_cases hkj : j < cc
    · have hq : i * cc + j < la.length := by rw [hla]; exact lt_mul_of hk hkj
      have hrow : i * cb + cb ≤ lb.length := by
        rw [hlb]
        have := Nat.mul_le_mul_right cb (show i + 1 ≤ ra from hk)
        rw [Nat.add_mul] at this; omega
      obtain ⟨x, hx⟩ : ∃ x, x = la[i * cc + j] := ⟨_, rfl⟩
      have hxb : x < 18446744073709551616 := by rw [hx]; exact ba.get hq
      have hfx : fv la (i * cc + j) = uV x := by unfold fv; simp [List.getD, hq, hx]
      obtain ⟨rw_, hrw⟩ : ∃ r, r = (lb.drop (i * cb)).take cb := ⟨_, rfl⟩
      have hrl : rw_.length = cb := by rw [hrw]; simp; omega
      have hrb : Bt rw_ := by rw [hrw]; exact bb.part _ _
      obtain ⟨cl, hcl⟩ : ∃ r, r = colL cb cc lc j := ⟨_, rfl⟩
      have hcll : cl.length = cb := by rw [hcl]; exact colL_len _ _ _ _
      have hclb : Bt cl := by rw [hcl]; exact bc.col _ _ _
      have hdot : sumN (dotF rw_ cl) rw_.length = pdF cb cc lb lc i j := by rw [hrw, hcl]; exact dot_pd hlb i j hk (by rw [← hrw]; exact hrl)
      have hps := sz_pdF cb cc lb lc i j
      obtain ⟨p, hp⟩ : ∃ p, p = pdF cb cc lb lc i j := ⟨_, rfl⟩
      have hD := rsD_at (cb := cb) (la := la) (lb := lb) (lc := lc) (i := i) hkj
      have hDs := sz_rsD cb cc h6.2.1 la lb lc (i * cc + j)
      have hQs := sz_rsQ cb cc h6.2.1 la lb lc (i * cc + j)
      have hQd : rsQ cb cc la lb lc (i * cc + j) = rsD cb cc la lb lc (i * cc + j) * rsD cb cc la lb lc (i * cc + j) := rfl
      have hSs : sz S (278 + (i * cc + j)) := by rw [hS]; exact sz_sumN _ fun q _ => sz_rsQ cb cc h6.2.1 la lb lc q
      obtain ⟨d, hd⟩ : ∃ d, d = rsD cb cc la lb lc (i * cc + j) := ⟨_, rfl⟩
      obtain ⟨q2, hq2⟩ : ∃ d, d = rsQ cb cc la lb lc (i * cc + j) := ⟨_, rfl⟩
      rw [← hp] at hdot hps hD
      rw [← hd] at hD hDs hQd
      rw [← hq2] at hQs hQd
      rw [hfx] at hD
      simp (disch := omega) [c21L0, e1, e2, e3, e4, e5, e6, e7, e8, e9, e10, e11, hkj]
      refine CallK.of (by simp) (At_call (by omega) ra cc ia la i j (i * cc + j) rfl hq (by omega) x hx.symm ?_)
      simp (disch := omega) [e1, e2, e3, e4, e5, e6, e7, e8, e9, e10, e11]
      refine CallK.of (by simp) (RValue_V (by omega) x hxb fun i1 n1 g1 b1 => ?_)
      simp (disch := omega) [e1, e2, e3, e4, e5, e6, e7, e8, e9, e10, e11, g1]
      refine CallK.of (by simp) (Row_call (by omega) ra cb ib lb i hrow (by omega) (by omega) fun o => ?_)
      rw [← hrw]
      simp (disch := omega) [e1, e2, e3, e4, e5, e6, e7, e8, e9, e10, e11, g1]
      refine CallK.of (by simp) (Col_call (by omega) cb cc ic lc j hlc ⟨h6.2.1, h6.2.2⟩ hkj fun o2 n2 g2 => ?_)
      rw [← hcl]
      simp (disch := omega) [e1, e2, e3, e4, e5, e6, e7, e8, e9, e10, e11, g1, g2]
      refine CallK.of (by simp) (Dot_call (by omega) o o2 rw_ cl (by omega) (by omega) (by omega) hrb hclb fun i3 n3 g3 b3 => ?_)
      rw [hdot]
      simp (disch := omega) [e1, e2, e3, e4, e5, e6, e7, e8, e9, e10, e11, g1, g2, g3]
      rw [NV_up]
      refine CallK.of (by simp) (SubNV_call (by omega) (k := 138) i1 i3 (by omega) (by omega) ((sz_up (sz_uV x)).mono (by omega)) (hps.mono (by omega)) (by omega) (by omega) fun i4 n4 g4 b4 => ?_)
      rw [← hD]
      simp (disch := omega) [e1, e2, e3, e4, e5, e6, e7, e8, e9, e10, e11, g1, g2, g3, g4]
      refine CallK.of (by simp) (RMul_V (by omega) (-2148) (-2148) d d q2 i4 i4 (by omega) (by omega) 139 139 hDs hDs (by omega) (by omega) (by omega) hQd.symm fun i5 n5 g5 b5 => ?_)
      rw [show (-2148 : Int) + -2148 = -4296 by omega]
      simp (disch := omega) [e1, e2, e3, e4, e5, e6, e7, e8, e9, e10, e11, g1, g2, g3, g4, g5]
      refine CallK.of (by simp) (RAdd_V (by omega) (-4296) S q2 (S + q2) (278 + (i * cc + j)) iS i5 (by omega) (by omega) hSs (hQs.mono (by omega)) (by omega) (by omega) rfl fun i6 n6 g6 b6 => ?_)
      simp (disch := omega) [e1, e2, e3, e4, e5, e6, e7, e8, e9, e10, e11, g1, g2, g3, g4, g5, g6]
      exact ⟨k2 - 1, by omega, j + 1, n6, S + q2, i6, r0, _, by omega, hr0, by simp [At, e1, e2, e3, e4, e5, e6, e7, e8, e9, e10, e11]; rfl, by omega, b6, by rw [hS, hq2]; rfl⟩
    · have hjc : j = cc := by omega
      simp (disch := omega) [c21L0, c21R0, e1, e2, e3, e4, e5, e6, e7, e8, e9, e10, e11, hkj]
      exact ⟨k - 1, by omega, i + 1, nx, S, iS, r0, C, by omega, hr0, by simp [At, e1, e2, e3, e4, e5, e6, e7, e8, e9, e10, e11], hnx, hiS, by rw [hS, hjc, Nat.add_mul, Nat.one_mul]⟩
  · have hir : i = ra := by omega
    have := hQ iS nx hnx hiS
    rw [rsS_eq, hla, ← hir, ← hS] at this
    simp only [NV, D] at this
    simpa (disch := omega) [c21L1, c21R1, e1, e2, e3, e4, e5, e6, e7, e8, e9, e10, hk, hnx, hr0] using this
end Go.Proofs.YtphndngifjgeoaaDoor
