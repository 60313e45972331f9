/- The document's square of what is left, turned by the first factor, by value. -/
import Derived.Test.YtphndngifjgeoaaDoorCyL
set_option linter.unusedVariables false
set_option linter.unusedSimpArgs false
set_option maxRecDepth 20000
set_option maxHeartbeats 4000000
namespace Go.Proofs.YtphndngifjgeoaaDoor
open Go.Proofs
def smF (x : List Nat) (W : List Dv) (i : Nat) : Int := fv x i * (W.getD i default).v
def smI (ix iw : Sid) (x : List Nat) (W : List Dv) (n : Nat) (k : Nat) (s : St) : Prop :=
  ∃ (j nx : Nat) (S : Int) (iS : Sid) (r0 : List PV), j + k = x.length ∧ r0.length = 3 ∧ At s 27 [r0, NC (-3222) S iS] nx [(0, .sl ix 1 (bts x)), (1, .sl iw 3 (W.map (Dv.pv (-2148)))), (4, .box 0 0), (5, .box 1 0), (6, .int .i64 j)] ∧ n ≤ nx ∧ iS.f < nx ∧ S = sumN (smF x W) j
theorem sums_call {n : Nat} (hn : 0 < n) (ix iw : Sid) (x : List Nat) (W : List Dv) (hx : x.length ≤ 6) (hW : W.length = x.length) (bx : Bt x) (hW2 : DvOk n 139 W) {Q : PV → Nat → List Nat → Prop}
    (hQ : ∀ (i' : Sid) (n' : Nat), n ≤ n' → i'.f < n' → Q (NV (-3222) (sumN (smF x W) x.length) i') n' []) : PCall Tryd.prog 56 [.sl ix 1 (bts x), .sl iw 3 (W.map (Dv.pv (-2148)))] n Q := by
  refine of56 hn ?_
  simp (disch := omega) [c56]
  refine GO_loopN (smI ix iw x W n) x.length ⟨0, n, 0, ⟨0, 0, 0⟩, [.bool false, .sl ⟨0, 0, 0⟩ 1 [], .int .i64 0], by omega, rfl, by rw [NC_zero]; simp [At], Nat.le_refl _, hn, rfl⟩ ?_
  rintro k s ⟨j, nx, S, iS, r0, hj, hr0, ⟨e1, e2, e3, e4, e5⟩, hnx, hiS, hS⟩
  simp at e5
  obtain ⟨e5, e6, e7, e8, e9⟩ := e5
  have hSs : sz S (205 + j) := by rw [hS]; exact sz_sumN j fun q _ => (sz_fv x q).mul (hW2.getD q)
  by_cases hk : j < x.length
  · obtain ⟨a, ha⟩ : ∃ a, a = x[j] := ⟨_, rfl⟩
    have hjW : j < W.length := by omega
    obtain ⟨b, hb⟩ : ∃ b, b = W[j] := ⟨_, rfl⟩
    have hbo := hW2.get hjW
    rw [← hb] at hbo
    have hab : smF x W j = uV a * b.v := by unfold smF fv; simp [List.getD, hk, hjW, ha, hb]
    simp (disch := omega) [c56L0, e1, e2, e3, e4, e5, e6, e7, e8, e9, hk, hjW, ← ha, ← hb]
    refine CallK.of (by simp) (RValue_V (by omega) a (by rw [ha]; exact bx.get hk) fun i1 n1 g1 b1 => ?_)
    simp (disch := omega) [e1, e2, e3, e4, e5, e6, e7, e8, e9, hk, hjW, ← ha, ← hb, g1]
    refine CallK.of (by simp) (RMul_V (by omega) (-1074) (-2148) (uV a) b.v (uV a * b.v) i1 b.i (by omega) (by omega) 66 139 (sz_uV a) hbo.2 (by omega) (by omega) (by omega) rfl fun i3 n3 g3 b3 => ?_)
    have hp : sz (uV a * b.v) 205 := (sz_uV a).mul hbo.2
    obtain ⟨p, hpd⟩ : ∃ p, p = uV a * b.v := ⟨_, rfl⟩
    rw [← hpd] at hp hab ⊢
    rw [show (-1074 : Int) + -2148 = -3222 by omega]
    simp (disch := omega) [e1, e2, e3, e4, e5, e6, e7, e8, e9, g1, g3]
    refine CallK.of (by simp) (RAdd_V (by omega) (-3222) S p (S + p) (205 + j) iS i3 (by omega) (by omega) hSs (hp.mono (by omega)) (by omega) (by omega) rfl fun i4 n4 g4 b4 => ?_)
    simp (disch := omega) [e1, e2, e3, e4, e5, e6, e7, e8, e9, g1, g3, g4]
    exact ⟨k - 1, by omega, j + 1, n4, S + p, i4, r0, by omega, hr0, by simp [At, e1, e2, e3, e4, e5, e6, e7, e8, e9], by omega, b4, by rw [hS]; simp only [sumN]; rw [hab]⟩
  · have hjl : j = x.length := by omega
    have := hQ iS nx hnx hiS
    rw [← hjl, ← hS] at this
    simp only [NV, D] at this
    simpa (disch := omega) [c56L0, c56R0, e1, e2, e3, e4, e5, e6, e7, e8, e9, hk, hnx, hr0] using this
def gdD (cb cc : Nat) (la lb lc : List Nat) (q : Nat) : Int := pdF cb cc lb lc (q / cc) (q % cc) - fv la q * 2 ^ e74
theorem gdD_at {cb cc : Nat} {la lb lc : List Nat} {i j : Nat} (hj : j < cc) : gdD cb cc la lb lc (i * cc + j) = pdF cb cc lb lc i j - fv la (i * cc + j) * 2 ^ e74 := by
  unfold gdD
  rw [show (i * cc + j) / cc = i by rw [Nat.mul_comm, Nat.mul_add_div (by omega), Nat.div_eq_of_lt hj]; omega, show (i * cc + j) % cc = j by rw [Nat.mul_comm, Nat.mul_add_mod, Nat.mod_eq_of_lt hj]]
theorem sz_gdD (cb cc : Nat) (hc : cb ≤ 6) (la lb lc : List Nat) (q : Nat) : sz (gdD cb cc la lb lc q) 139 := by
  unfold gdD
  exact ((sz_pdF _ _ _ _ _ _).mono (by omega)).sub ((sz_up (sz_fv _ _)).mono (by omega))
def grF (ra cb cc : Nat) (la lb lc : List Nat) (k j : Nat) : Int := sumN (fun i => fv lb (i * cb + k) * gdD cb cc la lb lc (i * cc + j)) ra
theorem sz_grF (ra cb cc : Nat) (hr : ra ≤ 6) (hc : cb ≤ 6) (la lb lc : List Nat) (k j : Nat) : sz (grF ra cb cc la lb lc k j) 211 :=
  (sz_sumN ra fun q _ => (sz_fv lb _).mul (sz_gdD cb cc hc la lb lc _)).mono (by omega)
def grQ (ra cb cc : Nat) (la lb lc : List Nat) (j k : Nat) : Int := grF ra cb cc la lb lc k j * grF ra cb cc la lb lc k j
def grS (ra cb cc : Nat) (la lb lc : List Nat) : Int := sumN (fun j => sumN (grQ ra cb cc la lb lc j) cb) cc
def ggI (M0 M1 M2 : List PV) (cc : Nat) (f : Nat → Int) (n : Nat) (k : Nat) (s : St) : Prop :=
  ∃ (j nx : Nat) (S : Int) (iS : Sid) (r0 : List PV) (C : List (List PV)), j + k = cc ∧ r0.length = 3 ∧ At s 60 (M0 :: M1 :: M2 :: r0 :: NC (-6444) S iS :: C) nx [(3, .box 0 0), (4, .box 1 0), (5, .box 2 0), (6, .box 3 0), (7, .box 4 0), (8, .int .i64 j)] ∧ n ≤ nx ∧ iS.f < nx ∧ S = sumN f j ∧ sz S (422 + 6 * j)
def ggW (ra cb cc : Nat) (la lb lc : List Nat) (j nx : Nat) (W : List Dv) : Prop := ∀ q (hq : q < W.length), W[q].v = gdD cb cc la lb lc (q * cc + j) ∧ W[q].i.f < nx
def ggJ (M0 M1 M2 : List PV) (ra cb cc : Nat) (la lb lc : List Nat) (B : List (List PV)) (n j : Nat) (k : Nat) (s : St) : Prop :=
  ∃ (i nx : Nat) (o : Sid) (W : List Dv), i + k = ra ∧ At s 60 (M0 :: M1 :: M2 :: B) nx [(3, .box 0 0), (4, .box 1 0), (5, .box 2 0), (6, .box 3 0), (7, .box 4 0), (8, .int .i64 j), (9, .sl o 3 (W.map (Dv.pv (-2148)))), (10, .int .i64 i)] ∧ Grow s.tips n nx o (W.length * 3) ∧ n ≤ nx ∧ W.length = i ∧ ggW ra cb cc la lb lc j nx W
def ggK (M0 M1 M2 : List PV) (cb : Nat) (f : Nat → Int) (S0 : Int) (p : Nat) (o : Sid) (W : List Dv) (n j : Nat) (k : Nat) (s : St) : Prop :=
  ∃ (q nx : Nat) (S : Int) (iS : Sid) (r0 : List PV) (C : List (List PV)), q + k = cb ∧ r0.length = 3 ∧ At s 60 (M0 :: M1 :: M2 :: r0 :: NC (-6444) S iS :: C) nx [(3, .box 0 0), (4, .box 1 0), (5, .box 2 0), (6, .box 3 0), (7, .box 4 0), (8, .int .i64 j), (9, .sl o 3 (W.map (Dv.pv (-2148)))), (11, .int .i64 q)] ∧ n ≤ nx ∧ iS.f < nx ∧ S = S0 + sumN f q ∧ sz S (p + q)
theorem RefGradient_call {n : Nat} (hn : 0 < n) (ra cb cc : Nat) (ia ib ic : Sid) (la lb lc : List Nat) (hla : la.length = ra * cc) (hlb : lb.length = ra * cb) (hlc : lc.length = cb * cc) (h6 : ra ≤ 6 ∧ cb ≤ 6 ∧ cc ≤ 6) (ba : Bt la) (bb : Bt lb) (bc : Bt lc) {Q : PV → Nat → List Nat → Prop}
    (hQ : ∀ (i' : Sid) (n' : Nat), n ≤ n' → i'.f < n' → Q (NV (-6444) (grS ra cb cc la lb lc) i') n' []) : PCall Tryd.prog 22 [Mx (ra : Int) (cb : Int) ib lb, Mx (cb : Int) (cc : Int) ic lc, Mx (ra : Int) (cc : Int) ia la] n Q := by
  have hla36 : la.length ≤ 36 := by rw [hla]; exact Nat.mul_le_mul h6.1 h6.2.2
  have hlb36 : lb.length ≤ 36 := by rw [hlb]; exact Nat.mul_le_mul h6.1 h6.2.1
  have hlc36 : lc.length ≤ 36 := by rw [hlc]; exact Nat.mul_le_mul h6.2.1 h6.2.2
  refine of22 hn ?_
  simp (disch := omega) [c22]
  refine GO_loopN (ggI [.int .i64 (ra : Int), .int .i64 (cb : Int), .sl ib 1 (bts lb)] [.int .i64 (cb : Int), .int .i64 (cc : Int), .sl ic 1 (bts lc)] [.int .i64 (ra : Int), .int .i64 (cc : Int), .sl ia 1 (bts la)] cc (fun j => sumN (grQ ra cb cc la lb lc j) cb) n) cc ⟨0, n, 0, ⟨0, 0, 0⟩, [.bool false, .sl ⟨0, 0, 0⟩ 1 [], .int .i64 0], [], by omega, rfl, by rw [NC_zero]; simp [At], Nat.le_refl _, hn, rfl, sz_zero _⟩ ?_
  rintro k s ⟨j, nx, S, iS, r0, C, hj, hr0, ⟨e1, e2, e3, e4, e5⟩, hnx, hiS, hS, hSs⟩
  simp at e5
  obtain ⟨e5, e6, e7, e8, e9, e10⟩ := e5
  by_cases hk : j < cc
  · simp (disch := omega) [c22L2, e1, e2, e3, e4, e5, e6, e7, e8, e9, e10, hk]
    refine GO_loopN (ggJ [.int .i64 (ra : Int), .int .i64 (cb : Int), .sl ib 1 (bts lb)] [.int .i64 (cb : Int), .int .i64 (cc : Int), .sl ic 1 (bts lc)] [.int .i64 (ra : Int), .int .i64 (cc : Int), .sl ia 1 (bts la)] ra cb cc la lb lc (r0 :: NC (-6444) S iS :: C) nx j) ra ⟨0, nx + 1, ⟨nx, nx, 0⟩, [], by omega, by simp [At, e1, e2, e3, e4, e5, e6, e7, e8, e9, e10], by simpa [e3] using Grow.fresh s.tips 0 (Nat.le_refl nx) (by omega) (Nat.lt_succ_self nx), by omega, rfl, fun q hq => absurd hq (by simp)⟩ ?_
    clear e1 e2 e3 e4 e5 e6 e7 e8 e9 e10
    clear s
    rintro k2 s ⟨i, nx1, o, W, hi, ⟨e1, e2, e3, e4, e5⟩, hg, hnx1, hW, hWv⟩
    simp at e5
    obtain ⟨e5, e6, e7, e8, e9, e10, e11, e12⟩ := e5
    by_cases hki : i < ra
    · have hq : i * cc + j < la.length := by rw [hla]; exact lt_mul_of hki hk
      have hrow : i * cb + cb ≤ lb.length := by
        rw [hlb]
        have := Nat.mul_le_mul_right cb (show i + 1 ≤ ra from hki)
        rw [Nat.add_mul] at this; omega
      obtain ⟨x, hx⟩ : ∃ x, x = la[i * cc + j] := ⟨_, rfl⟩
      have hxb : x < 18446744073709551616 := by rw [hx]; exact ba.get hq
      have hfx : fv la (i * cc + j) = uV x := by unfold fv; simp [List.getD, hq, hx]
      obtain ⟨rw_, hrw⟩ : ∃ r, r = (lb.drop (i * cb)).take cb := ⟨_, rfl⟩
      have hrl : rw_.length = cb := by rw [hrw]; simp; omega
      have hrb : Bt rw_ := by rw [hrw]; exact bb.part _ _
      obtain ⟨cl, hcl⟩ : ∃ r, r = colL cb cc lc j := ⟨_, rfl⟩
      have hcll : cl.length = cb := by rw [hcl]; exact colL_len _ _ _ _
      have hclb : Bt cl := by rw [hcl]; exact bc.col _ _ _
      have hdot : sumN (dotF rw_ cl) rw_.length = pdF cb cc lb lc i j := by rw [hrw, hcl]; exact dot_pd hlb i j hki (by rw [← hrw]; exact hrl)
      have hps := sz_pdF cb cc lb lc i j
      have hD := gdD_at (cb := cb) (la := la) (lb := lb) (lc := lc) (i := i) hk
      obtain ⟨p, hp⟩ : ∃ p, p = pdF cb cc lb lc i j := ⟨_, rfl⟩
      rw [← hp] at hdot hps hD
      rw [hfx] at hD
      simp (disch := omega) [c22L0, e1, e2, e3, e4, e5, e6, e7, e8, e9, e10, e11, e12, hki]
      refine CallK.of (by simp) (Row_call (by omega) ra cb ib lb i hrow (by omega) (by omega) fun o1 => ?_)
      rw [← hrw]
      simp (disch := omega) [e1, e2, e3, e4, e5, e6, e7, e8, e9, e10, e11, e12]
      refine CallK.of (by simp) (Col_call (by omega) cb cc ic lc j hlc ⟨h6.2.1, h6.2.2⟩ hk fun o2 n2 g2 => ?_)
      rw [← hcl]
      simp (disch := omega) [e1, e2, e3, e4, e5, e6, e7, e8, e9, e10, e11, e12, g2]
      refine CallK.of (by simp) (Dot_call (by omega) o1 o2 rw_ cl (by omega) (by omega) (by omega) hrb hclb fun i3 n3 g3 b3 => ?_)
      rw [hdot]
      simp (disch := omega) [e1, e2, e3, e4, e5, e6, e7, e8, e9, e10, e11, e12, g2, g3]
      refine CallK.of (by simp) (At_call (by omega) ra cc ia la i j (i * cc + j) rfl hq (by omega) x hx.symm ?_)
      simp (disch := omega) [e1, e2, e3, e4, e5, e6, e7, e8, e9, e10, e11, e12, g2, g3]
      refine CallK.of (by simp) (RValue_V (by omega) x hxb fun i1 n1 g1 b1 => ?_)
      simp (disch := omega) [e1, e2, e3, e4, e5, e6, e7, e8, e9, e10, e11, e12, g1, g2, g3]
      rw [NV_up]
      refine CallK.of (by simp) (SubNV_call (by omega) (k := 138) i3 i1 (by omega) (by omega) (hps.mono (by omega)) ((sz_up (sz_uV x)).mono (by omega)) (by omega) (by omega) fun i4 n4 g4 b4 => ?_)
      rw [← hD]
      simp (disch := omega) [e1, e2, e3, e4, e5, e6, e7, e8, e9, e10, e11, e12, g1, g2, g3, g4]
      refine AppK_z (n := nx) (nx := n4) (len := W.length * 3) (tips0 := s.tips) (T := 3) (by simp) (by simp) (hg.mono (by omega)) (by simp) (.inr rfl) (by omega) (by omega) (by simp; omega) (by omega) fun tips i' h1 h2 h3 h4 => ?_
      simp (disch := omega) [e1, e2, e3, e4, e5, e6, e7, e8, e9, e10, e11, e12, g1, g2, g3, g4]
      refine ⟨k2 - 1, by omega, i + 1, n4 + 2, i', W ++ [⟨gdD cb cc la lb lc (i * cc + j), i4⟩], by omega, by simp [At, e1, e2, e3, e4, e5, e6, e7, e8, e9, e10, e11, e12], by rw [show (W ++ [(⟨gdD cb cc la lb lc (i * cc + j), i4⟩ : Dv)]).length * 3 = W.length * 3 + 3 by simp; omega]; simpa using h3, by omega, by simp; omega, fun q hq => ?_⟩
      by_cases hqj : q < W.length
      · rw [List.getElem_append_left hqj]
        exact ⟨(hWv q hqj).1, by have := (hWv q hqj).2; omega⟩
      · have hqe : q = W.length := by simp at hq; omega
        subst hqe
        rw [show (W ++ [(⟨gdD cb cc la lb lc (i * cc + j), i4⟩ : Dv)])[W.length] = ⟨gdD cb cc la lb lc (i * cc + j), i4⟩ by rw [List.getElem_append_right (by omega)]; simp]
        exact ⟨by rw [hW], by show i4.f < n4 + 2; omega⟩
    · have hir : i = ra := by omega
      have hWo : DvOk nx1 139 W := by
        intro d hd
        obtain ⟨q, hq, rfl⟩ := List.getElem_of_mem hd
        exact ⟨(hWv q hq).2, by rw [(hWv q hq).1]; exact sz_gdD cb cc h6.2.1 la lb lc _⟩
      simp (disch := omega) [c22L0, c22R0, e1, e2, e3, e4, e5, e6, e7, e8, e9, e10, e11, e12, hki]
      refine GO_loopN (ggK [.int .i64 (ra : Int), .int .i64 (cb : Int), .sl ib 1 (bts lb)] [.int .i64 (cb : Int), .int .i64 (cc : Int), .sl ic 1 (bts lc)] [.int .i64 (ra : Int), .int .i64 (cc : Int), .sl ia 1 (bts la)] cb (grQ ra cb cc la lb lc j) S (422 + 6 * j) o W nx1 j) cb ⟨0, nx1, S, iS, r0, C, by omega, hr0, by simp [At, e1, e2, e3, e4, e5, e6, e7, e8, e9, e10, e11, e12], Nat.le_refl _, by omega, by simp [sumN], hSs⟩ ?_
      clear e1 e2 e3 e4 e5 e6 e7 e8 e9 e10 e11 e12
      obtain ⟨S0, hS0⟩ : ∃ x, x = S := ⟨_, rfl⟩
      rw [← hS0] at hS ⊢
      clear hSs hiS hr0 hg
      clear s S iS r0 C hS0
      rintro k3 s ⟨q, nx3, S, iS, r0, C, hq, hr0, ⟨e1, e2, e3, e4, e5⟩, hnx3, hiS, hSq, hSs⟩
      simp at e5
      obtain ⟨e5, e6, e7, e8, e9, e10, e11, e12⟩ := e5
      by_cases hkq : q < cb
      · obtain ⟨cl, hcl⟩ : ∃ r, r = colL ra cb lb q := ⟨_, rfl⟩
        have hcll : cl.length = ra := by rw [hcl]; exact colL_len _ _ _ _
        have hclb : Bt cl := by rw [hcl]; exact bb.col _ _ _
        have hsum : sumN (smF cl W) cl.length = grF ra cb cc la lb lc q j := by
          rw [hcll]
          unfold grF
          refine sumN_congr _ fun i' hi' => ?_
          unfold smF
          rw [hcl, fv_col ra cb lb q i' hi']
          have hiW : i' < W.length := by omega
          rw [show (W.getD i' default) = W[i'] by simp [List.getD, hiW], (hWv i' hiW).1]
        have hgs := sz_grF ra cb cc h6.1 h6.2.1 la lb lc q j
        have hqd : grQ ra cb cc la lb lc j q = grF ra cb cc la lb lc q j * grF ra cb cc la lb lc q j := rfl
        obtain ⟨d, hd⟩ : ∃ d, d = grF ra cb cc la lb lc q j := ⟨_, rfl⟩
        obtain ⟨q2, hq2⟩ : ∃ d, d = grQ ra cb cc la lb lc j q := ⟨_, rfl⟩
        rw [← hd] at hsum hgs hqd
        rw [← hq2] at hqd
        have hQs : sz q2 422 := by rw [hqd]; exact hgs.mul hgs
        simp (disch := omega) [c22L1, e1, e2, e3, e4, e5, e6, e7, e8, e9, e10, e11, e12, hkq]
        refine CallK.of (by simp) (Col_call (by omega) ra cb ib lb q hlb ⟨h6.1, h6.2.1⟩ hkq fun o2 n2 g2 => ?_)
        rw [← hcl]
        simp (disch := omega) [e1, e2, e3, e4, e5, e6, e7, e8, e9, e10, e11, e12, g2]
        refine CallK.of (by simp) (sums_call (by omega) o2 o cl W (by omega) (by omega) hclb (hWo.mono (by omega) (Nat.le_refl _)) fun i3 n3 g3 b3 => ?_)
        rw [hsum]
        simp (disch := omega) [e1, e2, e3, e4, e5, e6, e7, e8, e9, e10, e11, e12, g2, g3]
        refine CallK.of (by simp) (RMul_V (by omega) (-3222) (-3222) d d q2 i3 i3 (by omega) (by omega) 211 211 hgs hgs (by omega) (by omega) (by omega) hqd.symm fun i5 n5 g5 b5 => ?_)
        rw [show (-3222 : Int) + -3222 = -6444 by omega]
        simp (disch := omega) [e1, e2, e3, e4, e5, e6, e7, e8, e9, e10, e11, e12, g2, g3, g5]
        refine CallK.of (by simp) (RAdd_V (by omega) (-6444) S q2 (S + q2) (422 + 6 * j + q) iS i5 (by omega) (by omega) hSs (hQs.mono (by omega)) (by omega) (by omega) rfl fun i6 n6 g6 b6 => ?_)
        simp (disch := omega) [e1, e2, e3, e4, e5, e6, e7, e8, e9, e10, e11, e12, g2, g3, g5, g6]
        exact ⟨k3 - 1, by omega, q + 1, n6, S + q2, i6, r0, _, by omega, hr0, by simp [At, e1, e2, e3, e4, e5, e6, e7, e8, e9, e10, e11, e12]; rfl, by omega, b6, by rw [hSq, hq2]; simp only [sumN]; omega, (hSs.add (hQs.mono (by omega))).mono (by omega)⟩
      · have hqc : q = cb := by omega
        simp (disch := omega) [c22L1, c22R1, e1, e2, e3, e4, e5, e6, e7, e8, e9, e10, e11, e12, hkq]
        exact ⟨k - 1, by omega, j + 1, nx3, S, iS, r0, C, by omega, hr0, by simp [At, e1, e2, e3, e4, e5, e6, e7, e8, e9, e10, e11, e12], by omega, hiS, by rw [hSq, hS, hqc]; rfl, hSs.mono (by omega)⟩
  · have hjc : j = cc := by omega
    have := hQ iS nx hnx hiS
    rw [show grS ra cb cc la lb lc = S by rw [hS, hjc]; rfl] at this
    simp only [NV, D] at this
    simpa (disch := omega) [c22L2, c22R2, e1, e2, e3, e4, e5, e6, e7, e8, e9, e10, hk, hnx, hr0] using this
end Go.Proofs.YtphndngifjgeoaaDoor
