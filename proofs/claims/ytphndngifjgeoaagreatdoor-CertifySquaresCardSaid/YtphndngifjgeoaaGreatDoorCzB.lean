/- The document's squares, and how far columns are from standing upright, by value. -/
import Derived.Test.YtphndngifjgeoaaGreatDoorCzA
set_option linter.unusedVariables false
set_option linter.unusedSimpArgs false
set_option maxRecDepth 20000
set_option maxHeartbeats 4000000
namespace Go.Proofs.YtphndngifjgeoaaGreatDoor
open Go.Proofs
def sqF (l : List Nat) (q : Nat) : Int := fv l q * fv l q
theorem sqM_eq (l : List Nat) : sqM l = sumN (sqF l) l.length := rfl
theorem sz_sqF (l : List Nat) (q : Nat) : sz (sqF l q) 132 := (sz_fv _ _).mul (sz_fv _ _)
def rqI (i : Sid) (l : List Nat) (n : Nat) (k : Nat) (s : St) : Prop :=
  ∃ (j nx : Nat) (S : Int) (iS : Sid) (r0 : List PV) (B : List (List PV)), j + k = l.length ∧ r0.length = 3 ∧ At s 24 (r0 :: NC (-2148) S iS :: B) nx [(0, .sl i 1 (bts l)), (2, .box 0 0), (3, .box 1 0), (4, .int .i64 (j : Int))] ∧ n ≤ nx ∧ iS.f < nx ∧ S = sumN (sqF l) j
theorem RSquares_call {n : Nat} (hn : 0 < n) (i : Sid) (l : List Nat) (hl : l.length ≤ 36) (hb : Bt l) {Q : PV → Nat → List Nat → Prop} (hQ : ∀ (i' : Sid) (n' : Nat), n ≤ n' → i'.f < n' → Q (NV (-2148) (sqM l) i') n' []) : PCall Tryz.prog 25 [.sl i 1 (bts l)] n Q := by
  refine of25 hn ?_
  simp (disch := omega) [c25]
  refine GO_loopN (rqI i l n) l.length ⟨0, n, 0, ⟨0, 0, 0⟩, [.bool false, .sl ⟨0, 0, 0⟩ 1 [], .int .i64 0], [], by omega, rfl, by rw [NC_zero]; simp [At], Nat.le_refl _, hn, rfl⟩ ?_
  rintro k s ⟨j, nx, S, iS, r0, B, hj, hr0, ⟨e1, e2, e3, e4, e5⟩, hnx, hiS, hS⟩
  simp at e5
  obtain ⟨e5, e6, e7, e8⟩ := e5
  by_cases hk : j < l.length
  · obtain ⟨x, hx⟩ : ∃ x, x = l[j] := ⟨_, rfl⟩
    have hxb : x < 18446744073709551616 := by rw [hx]; exact hb.get hk
    have hab : sqF l j = uV x * uV x := by unfold sqF fv; simp [List.getD, hk, hx]
    have hSs : sz S (132 + j) := by rw [hS]; exact sz_sumN j fun q _ => sz_sqF l q
    have hp : sz (uV x * uV x) 132 := (sz_uV x).mul (sz_uV x)
    have hxs := sz_uV x
    obtain ⟨v, hv⟩ : ∃ v, v = uV x := ⟨_, rfl⟩
    simp (disch := omega) [c25L0, e1, e2, e3, e4, e5, e6, e7, e8, hk, ← hx]
    refine CallK.of (by simp) (RValue_V (by omega) x hxb fun i1 n1 g1 b1 => ?_)
    rw [← hv] at hp hab hxs ⊢
    simp (disch := omega) [e1, e2, e3, e4, e5, e6, e7, e8, g1]
    refine CallK.of (by simp) (RMul_V (by omega) (-1074) (-1074) v v (v * v) i1 i1 (by omega) (by omega) 66 66 hxs hxs (by omega) (by omega) (by omega) rfl fun i3 n3 g3 b3 => ?_)
    obtain ⟨p, hpd⟩ : ∃ p, p = v * v := ⟨_, rfl⟩
    rw [← hpd] at hp hab ⊢
    rw [show (-1074 : Int) + -1074 = -2148 by omega]
    simp (disch := omega) [e1, e2, e3, e4, e5, e6, e7, e8, g1, g3]
    refine CallK.of (by simp) (RAdd_V (by omega) (-2148) S p (S + p) (132 + j) iS i3 (by omega) (by omega) hSs (hp.mono (by omega)) (by omega) (by omega) rfl fun i4 n4 g4 b4 => ?_)
    simp (disch := omega) [e1, e2, e3, e4, e5, e6, e7, e8, g1, g3, g4]
    exact ⟨k - 1, by omega, j + 1, n4, S + p, i4, r0, _, by omega, hr0, by simp [At, e1, e2, e3, e4, e5, e6, e7, e8]; rfl, by omega, b4, by rw [hS]; simp only [sumN]; rw [hab]⟩
  · have hjl : j = l.length := by omega
    have := hQ iS nx hnx hiS
    rw [sqM_eq, ← hjl, ← hS] at this
    simp only [NV, D] at this
    simpa (disch := omega) [c25L0, c25R0, e1, e2, e3, e4, e5, e6, e7, e8, hk, hnx, hr0] using this
theorem RSquare_call {n : Nat} (hn : 0 < n) (r c : Int) (i : Sid) (l : List Nat) (hl : l.length ≤ 36) (hb : Bt l) {Q : PV → Nat → List Nat → Prop} (hQ : ∀ (i' : Sid) (n' : Nat), n ≤ n' → i'.f < n' → Q (NV (-2148) (sqM l) i') n' []) : PCall Tryz.prog 10 [Mx r c i l] n Q := by
  refine of10 hn ?_
  simp (disch := omega) [c10]
  refine CallK.of (by simp) (RSquares_call hn i l hl hb fun i' n' g b => ?_)
  have := hQ i' n' g b
  simp only [NV, D] at this
  simpa (disch := omega) [g] using this
/-! ### how far columns are from standing upright -/
theorem sz_one1 : sz (1 : Int) 1 := by unfold sz; decide
theorem sz_oneD : sz oneD 138 := by
  have h1 : sz (1 : Int) 1 := by unfold sz; decide
  have h2 := sz_up (sz_up h1)
  rw [Int.one_mul] at h2
  exact h2.mono (by omega)
theorem sz_otD (r c : Nat) (hr : r ≤ 6) (l : List Nat) (i k : Nat) : sz (otD r c l i k) 139 := by
  unfold otD
  refine sz.sub ((sz_sumN r fun q _ => (sz_fv _ _).mul (sz_fv _ _)).mono (by omega)) ?_
  split
  · exact sz_oneD
  · exact sz_zero _
theorem sz_otQ (r c : Nat) (hr : r ≤ 6) (l : List Nat) (q : Nat) : sz (otQ r c l q) 278 := (sz_otD r c hr l _ _).mul (sz_otD r c hr l _ _)
theorem otQ_at {r c : Nat} {l : List Nat} {i j : Nat} (hj : j < c) : otQ r c l (i * c + j) = otD r c l i j * otD r c l i j := by
  unfold otQ otF
  obtain ⟨h1, h2⟩ := at_div (i := i) hj
  rw [h1, h2]
theorem one_NV (i : Sid) : D (decide (dyM 1 < 0)) i (dig (dyM 1).natAbs) (if (1 : Int) = 0 then 0 else IntKind.i64.wrap (0 + (tz (1 : Int).natAbs : Nat))) = NV (-2148) oneD i := by
  have ht : tz (1 : Int).natAbs = 0 := tz_odd (by decide)
  have e : (if (1 : Int) = 0 then 0 else IntKind.i64.wrap (0 + (tz (1 : Int).natAbs : Nat))) = dyE 1 0 := by
    unfold dyE
    rw [if_neg (by decide), if_neg (by decide), ht]
    exact wrap_i64_is (by omega) (by omega)
  rw [e]
  have h1 := NV_units 0 1 e74 i
  have h2 := NV_units (0 - (e74 : Nat)) (1 * 2 ^ e74) e74 i
  have h3 : (0 - (e74 : Nat) - (e74 : Nat) : Int) = -2148 := by rw [e74_eq]; omega
  rw [h3, Int.one_mul] at h2
  rw [Int.one_mul] at h1
  exact h1.trans h2
def roI (M0 : List PV) (c : Nat) (f : Nat → Int) (n : Nat) (k : Nat) (s : St) : Prop :=
  ∃ (i nx : Nat) (S : Int) (iS : Sid) (r0 : List PV) (B : List (List PV)), i + k = c ∧ r0.length = 3 ∧ At s 40 (M0 :: r0 :: NC (-4296) S iS :: B) nx [(1, .box 0 0), (2, .box 1 0), (3, .box 2 0), (4, .int .i64 (i : Int))] ∧ n ≤ nx ∧ iS.f < nx ∧ S = sumN f (i * c)
def roJ (M0 : List PV) (c : Nat) (f : Nat → Int) (n i : Nat) (k : Nat) (s : St) : Prop :=
  ∃ (j nx : Nat) (S : Int) (iS : Sid) (r0 : List PV) (B : List (List PV)), j + k = c ∧ r0.length = 3 ∧ At s 40 (M0 :: r0 :: NC (-4296) S iS :: B) nx [(1, .box 0 0), (2, .box 1 0), (3, .box 2 0), (4, .int .i64 (i : Int)), (5, .int .i64 (j : Int))] ∧ n ≤ nx ∧ iS.f < nx ∧ S = sumN f (i * c + j)
theorem dot_ot {r c : Nat} {l : List Nat} (i k : Nat) : sumN (dotF (colL r c l i) (colL r c l k)) r = sumN (fun j => fv l (j * c + i) * fv l (j * c + k)) r := by
  refine sumN_congr _ fun j hj => ?_
  unfold dotF
  rw [fv_col r c l i j hj, fv_col r c l k j hj]
theorem ROrth_call {n : Nat} (hn : 0 < n) (r c : Nat) (i0 : Sid) (l : List Nat) (hl : l.length = r * c) (h6 : r ≤ 6 ∧ c ≤ 6) (hb : Bt l) {Q : PV → Nat → List Nat → Prop}
    (hQ : ∀ (i' : Sid) (n' : Nat), n ≤ n' → i'.f < n' → Q (NV (-4296) (otS r c l) i') n' []) : PCall Tryz.prog 11 [Mx (r : Int) (c : Int) i0 l] n Q := by
  have hcc : c * c ≤ 36 := Nat.mul_le_mul h6.2 h6.2
  refine of11 hn ?_
  simp (disch := omega) [c11]
  refine GO_loopN (roI [.int .i64 (r : Int), .int .i64 (c : Int), .sl i0 1 (bts l)] c (otQ r c l) n) c ⟨0, n, 0, ⟨0, 0, 0⟩, [.bool false, .sl ⟨0, 0, 0⟩ 1 [], .int .i64 0], [], by omega, rfl, by rw [NC_zero]; simp [At], Nat.le_refl _, hn, by simp [sumN]⟩ ?_
  rintro k s ⟨i, nx, S, iS, r0, B, hi, hr0, ⟨e1, e2, e3, e4, e5⟩, hnx, hiS, hS⟩
  simp at e5
  obtain ⟨e5, e6, e7, e8⟩ := e5
  by_cases hk : i < c
  · simp (disch := omega) [c11L1, e1, e2, e3, e4, e5, e6, e7, e8, hk]
    refine GO_loopN (roJ [.int .i64 (r : Int), .int .i64 (c : Int), .sl i0 1 (bts l)] c (otQ r c l) n i) c ⟨0, nx, S, iS, r0, B, by omega, hr0, by simp [At, e1, e2, e3, e4, e5, e6, e7, e8], hnx, hiS, by simpa using hS⟩ ?_
    clear e1 e2 e3 e4 e5 e6 e7 e8 hS hiS hnx hr0
    clear s S iS r0 B nx
    rintro k2 s ⟨j, nx, S, iS, r0, B, hj, hr0, ⟨e1, e2, e3, e4, e5⟩, hnx, hiS, hS⟩
    simp at e5
    obtain ⟨e5, e6, e7, e8, e9⟩ := e5
    by_cases hkj : j < c
    · have hq : i * c + j < c * c := lt_mul_of hk hkj
      obtain ⟨x, hx⟩ : ∃ x, x = colL r c l i := ⟨_, rfl⟩
      obtain ⟨y, hy⟩ : ∃ y, y = colL r c l j := ⟨_, rfl⟩
      have hxl : x.length = r := by rw [hx]; exact colL_len _ _ _ _
      have hyl : y.length = r := by rw [hy]; exact colL_len _ _ _ _
      have hxb : Bt x := by rw [hx]; exact hb.col _ _ _
      have hyb : Bt y := by rw [hy]; exact hb.col _ _ _
      obtain ⟨P, hP⟩ : ∃ P, P = sumN (fun q => fv l (q * c + i) * fv l (q * c + j)) r := ⟨_, rfl⟩
      have hdot : sumN (dotF x y) x.length = P := by rw [hxl, hx, hy, dot_ot, hP]
      have hPs : sz P 138 := by rw [hP]; exact (sz_sumN r fun q _ => (sz_fv _ _).mul (sz_fv _ _)).mono (by omega)
      have hds := sz_otD r c h6.1 l i j
      have hqs := sz_otQ r c h6.1 l (i * c + j)
      have hqd : otQ r c l (i * c + j) = otD r c l i j * otD r c l i j := otQ_at hkj
      have hde : otD r c l i j = P - (if i = j then oneD else 0) := by unfold otD; rw [← hP]
      have hSs : sz S (278 + (i * c + j)) := by rw [hS]; exact sz_sumN _ fun q _ => sz_otQ r c h6.1 l q
      have hSn : sumN (otQ r c l) (i * c + (j + 1)) = S + otQ r c l (i * c + j) := by rw [hS]; rfl
      obtain ⟨d, hd⟩ : ∃ d, d = otD r c l i j := ⟨_, rfl⟩
      obtain ⟨q2, hq2⟩ : ∃ q2, q2 = otQ r c l (i * c + j) := ⟨_, rfl⟩
      rw [← hq2] at hqs hqd hSn
      rw [← hd] at hds hqd hde
      clear hP hS hd hq2
      simp (disch := omega) [c11L0, e1, e2, e3, e4, e5, e6, e7, e8, e9, hkj]
      refine CallK.of (by simp) (Col_call (by omega) r c i0 l i hl h6 hk fun o1 n1 g1 => ?_)
      rw [← hx]
      simp (disch := omega) [e1, e2, e3, e4, e5, e6, e7, e8, e9, g1]
      refine CallK.of (by simp) (Col_call (by omega) r c i0 l j hl h6 hkj fun o2 n2 g2 => ?_)
      rw [← hy]
      simp (disch := omega) [e1, e2, e3, e4, e5, e6, e7, e8, e9, g1, g2]
      refine CallK.of (by simp) (Dot_call (by omega) o1 o2 x y (by omega) (by omega) (by omega) hxb hyb fun i3 n3 g3 b3 => ?_)
      rw [hdot]
      by_cases hij : i = j
      · subst hij
        rw [if_pos rfl] at hde
        simp (disch := omega) [e1, e2, e3, e4, e5, e6, e7, e8, e9, g1, g2, g3]
        refine CallK.of (by simp) (RefOf_call (by omega) 1 (by omega) (by omega) fun i4 n4 g4 d4 => ?_)
        simp (disch := omega) [e1, e2, e3, e4, e5, e6, e7, e8, e9, g1, g2, g3, g4]
        have hwr : IntKind.i64.wrap 0 = 0 := wrap_i64_is rfl (by omega)
        refine CallK.of (by simp) (RefOfD2_call (by omega) 1 0 i4 (newSid_lt d4 (by omega)) (sz_one1.mono (by omega)) hwr fun i5 n5 g5 b5 => ?_)
        rw [one_NV]
        simp (disch := omega) [e1, e2, e3, e4, e5, e6, e7, e8, e9, g1, g2, g3, g4, g5]
        refine CallK.of (by simp) (SubNV_call (by omega) (k := 138) i3 i5 (by omega) (by omega) hPs sz_oneD (by omega) (by omega) fun i6 n6 g6 b6 => ?_)
        rw [← hde]
        simp (disch := omega) [e1, e2, e3, e4, e5, e6, e7, e8, e9, g1, g2, g3, g4, g5, g6]
        refine CallK.of (by simp) (RMul_V (by omega) (-2148) (-2148) d d q2 i6 i6 (by omega) (by omega) 139 139 hds hds (by omega) (by omega) (by omega) hqd.symm fun i7 n7 g7 b7 => ?_)
        rw [show (-2148 : Int) + -2148 = -4296 by omega]
        simp (disch := omega) [e1, e2, e3, e4, e5, e6, e7, e8, e9, g1, g2, g3, g4, g5, g6, g7]
        refine CallK.of (by simp) (RAdd_V (by omega) (-4296) S q2 (S + q2) (278 + (i * c + i)) iS i7 (by omega) (by omega) hSs (hqs.mono (by omega)) (by omega) (by omega) rfl fun i8 n8 g8 b8 => ?_)
        simp (disch := omega) [e1, e2, e3, e4, e5, e6, e7, e8, e9, g1, g2, g3, g4, g5, g6, g7, g8]
        exact ⟨k2 - 1, by omega, i + 1, n8, S + q2, i8, r0, _, by omega, hr0, by simp [At, e1, e2, e3, e4, e5, e6, e7, e8, e9]; rfl, by omega, b8, hSn.symm⟩
      · rw [if_neg hij, Int.sub_zero] at hde
        subst hde
        simp (disch := omega) [e1, e2, e3, e4, e5, e6, e7, e8, e9, g1, g2, g3, hij]
        refine CallK.of (by simp) (RMul_V (by omega) (-2148) (-2148) d d q2 i3 i3 (by omega) (by omega) 139 139 hds hds (by omega) (by omega) (by omega) hqd.symm fun i7 n7 g7 b7 => ?_)
        rw [show (-2148 : Int) + -2148 = -4296 by omega]
        simp (disch := omega) [e1, e2, e3, e4, e5, e6, e7, e8, e9, g1, g2, g3, g7]
        refine CallK.of (by simp) (RAdd_V (by omega) (-4296) S q2 (S + q2) (278 + (i * c + j)) iS i7 (by omega) (by omega) hSs (hqs.mono (by omega)) (by omega) (by omega) rfl fun i8 n8 g8 b8 => ?_)
        simp (disch := omega) [e1, e2, e3, e4, e5, e6, e7, e8, e9, g1, g2, g3, g7, g8]
        exact ⟨k2 - 1, by omega, j + 1, n8, S + q2, i8, r0, _, by omega, hr0, by simp [At, e1, e2, e3, e4, e5, e6, e7, e8, e9]; rfl, by omega, b8, hSn.symm⟩
    · have hjc : j = c := by omega
      simp (disch := omega) [c11L0, c11R0, e1, e2, e3, e4, e5, e6, e7, e8, e9, hkj]
      exact ⟨k - 1, by omega, i + 1, nx, S, iS, r0, B, by omega, hr0, by simp [At, e1, e2, e3, e4, e5, e6, e7, e8, e9], hnx, hiS, by rw [hS, hjc, Nat.add_mul, Nat.one_mul]⟩
  · have hir : i = c := by omega
    have := hQ iS nx hnx hiS
    rw [show otS r c l = S by rw [hS, hir]; rfl] at this
    simp only [NV, D] at this
    simpa (disch := omega) [c11L1, c11R1, e1, e2, e3, e4, e5, e6, e7, e8, hk, hnx, hr0] using this
end Go.Proofs.YtphndngifjgeoaaGreatDoor
