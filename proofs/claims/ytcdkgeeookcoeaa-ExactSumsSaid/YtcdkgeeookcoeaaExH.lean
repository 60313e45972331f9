/- The document's determinant, by value. -/
import Derived.Test.YtcdkgeeookcoeaaExG
set_option linter.unusedVariables false
set_option linter.unusedSimpArgs false
namespace Go.Proofs.Ytcdkgeeookcoeaa
open Go.Proofs

theorem RMul_Z {n : Nat} (hn : 0 < n) (x y z : Int) (ia ib : Sid) (k m : Nat) (hx : sz x k) (hy : sz y m) (hk : k ≤ 1000000 ∧ m ≤ 1000000) (hz : x * y = z) {Q : PV → Nat → List Nat → Prop}
    (hQ : ∀ (i : Sid) (n' : Nat), n ≤ n' → newSid n n' i → Q (W (decide (z < 0)) i (dig z.natAbs)) n' []) : PCall Try.prog 22 [W (decide (x < 0)) ia (dig x.natAbs), W (decide (y < 0)) ib (dig y.natAbs)] n Q := by
  have h1 := hx.len
  have h2 := hy.len
  exact refMul_call hn _ _ ia ib _ _ (by omega) (by omega) (Lim.dig _) (Lim.dig _) z (by rw [numW_dig, numW_dig]; exact hz) hQ
theorem RAdd_Z {n : Nat} (hn : 0 < n) (x y z : Int) (ia ib : Sid) (k m : Nat) (hx : sz x k) (hy : sz y m) (hk : k ≤ 1000000 ∧ m ≤ 1000000) (hz : x + y = z) {Q : PV → Nat → List Nat → Prop}
    (hQ : ∀ (i : Sid) (n' : Nat), n ≤ n' → newSid n n' i → Q (W (decide (z < 0)) i (dig z.natAbs)) n' []) : PCall Try.prog 21 [W (decide (x < 0)) ia (dig x.natAbs), W (decide (y < 0)) ib (dig y.natAbs)] n Q := by
  have h1 := hx.len
  have h2 := hy.len
  exact refAdd_call hn _ _ ia ib _ _ (by omega) (by omega) (Lim.dig _) (Lim.dig _) z (by rw [numW_dig, numW_dig]; exact hz) hQ
theorem RSub_Z {n : Nat} (hn : 0 < n) (x y z : Int) (ia ib : Sid) (k m : Nat) (hx : sz x k) (hy : sz y m) (hk : k ≤ 1000000 ∧ m ≤ 1000000) (hz : x - y = z) {Q : PV → Nat → List Nat → Prop}
    (hQ : ∀ (i : Sid) (n' : Nat), n ≤ n' → newSid n n' i → Q (W (decide (z < 0)) i (dig z.natAbs)) n' []) : PCall Try.prog 53 [W (decide (x < 0)) ia (dig x.natAbs), W (decide (y < 0)) ib (dig y.natAbs)] n Q := by
  have h1 := hx.len
  have h2 := hy.len
  exact refSub_call hn _ _ ia ib _ _ (by omega) (by omega) (Lim.dig _) (Lim.dig _) z (by rw [numW_dig, numW_dig]; exact hz) hQ
theorem RNeg_Z {n : Nat} (hn : 0 < n) (x z : Int) (ia : Sid) (k : Nat) (hx : sz x k) (hk : k ≤ 1000000) (hz : z = -x) {Q : PV → Nat → List Nat → Prop}
    (hQ : ∀ i', i' = ⟨0, 0, 0⟩ ∨ i' = ia → Q (W (decide (z < 0)) i' (dig z.natAbs)) n []) : PCall Try.prog 20 [W (decide (x < 0)) ia (dig x.natAbs)] n Q := by
  have h1 := hx.len
  exact Neg_call hn _ ia _ (by omega) (Lim.dig _) z (by rw [numW_dig]; exact hz) hQ

/-- What is left of a signed sum from place j on. -/
def Rem (F : Nat → List Nat → Int) (c : List Nat) (j : Nat) : Int := sgn j * Sg (fun x r => F x (c.take j ++ r)) (c.drop j)
theorem Rem_zero (F : Nat → List Nat → Int) (c : List Nat) : Rem F c 0 = Sg F c := by
  unfold Rem; simp [sgn_zero]
theorem Rem_end (F : Nat → List Nat → Int) (c : List Nat) : Rem F c c.length = 0 := by
  unfold Rem; simp [Sg]
theorem Rem_step (F : Nat → List Nat → Int) {c : List Nat} {j : Nat} (hj : j < c.length) : Rem F c j = sgn j * F c[j] (lessOne c j) + Rem F c (j + 1) := by
  unfold Rem
  rw [List.drop_eq_getElem_cons hj]
  simp only [Sg]
  have e : Sg (fun c' r => F c' (c.take j ++ (c[j] :: r))) (c.drop (j + 1)) = Sg (fun x r => F x (c.take (j + 1) ++ r)) (c.drop (j + 1)) := Sg_ext _ fun x r => by
    rw [List.take_add_one, List.getElem?_eq_getElem hj]; simp [-List.take_append_getElem]
  rw [e, sgn_succ, Int.mul_sub, Int.neg_mul]
  unfold lessOne
  omega

def rdetI (i ia ic : Sid) (M : List Rw) (a c : List Nat) (F : Nat → List Nat → Int) (n : Nat) (k : Nat) (s : St) : Prop :=
  ∃ (j nx : Nat) (B : List (List PV)) (b0 : List PV) (i1 : Sid) (S : Int), j + k = c.length ∧ At s 50 (b0 :: [.bool (decide (S < 0)), .sl i1 1 (u32s (dig S.natAbs))] :: B) nx [(0, .sl i 1 (M.map Rw.pv)), (1, .sl ia 1 (i64s a)), (2, .sl ic 1 (i64s c)), (6, .box 0 0), (7, .box 1 0), (8, .int .i64 j)] ∧ b0.length = 2 ∧
    n ≤ nx ∧ newSid n nx i1 ∧ sz S (110 + j) ∧ S + Rem F c j = Sg F c
set_option maxHeartbeats 1000000 in
theorem RefDet_call (w : Nat) (i : Sid) (M : List Rw) (hMl : M.length ≤ 6) : ∀ (a c : List Nat), a.length = c.length → a.length ≤ 6 → (∀ j, j ∈ a → j < M.length) → (∀ x, x ∈ c → x < w) → ∀ {n : Nat} (hn : 0 < n) (ia ic : Sid) (hM : MxOk n w 10 M) {Q : PV → Nat → List Nat → Prop}
    (hQ : ∀ (i : Sid) (n' : Nat), n ≤ n' → newSid n n' i → Q (W (decide (Dt ((pickR M a).map Rw.f) c < 0)) i (dig (Dt ((pickR M a).map Rw.f) c).natAbs)) n' []), PCall Try.prog 16 [.sl i 1 (M.map Rw.pv), .sl ia 1 (i64s a), .sl ic 1 (i64s c)] n Q
  | [], c, hl, _, _, _, n, hn, ia, ic, hM, Q, hQ => by
    refine of16 hn ?_
    simp (disch := omega) [c16]
    refine CallK.of (by simp) (RefOf_call hn 1 (by omega) (by omega) fun i1 n1 g1 d1 => ?_)
    have := hQ i1 n1 g1 d1
    simp [pickR, W] at this
    simpa (disch := omega) [g1] using this
  | a0 :: a, c, hl, hl6, ha, hc, n, hn, ia, ic, hM, Q, hQ => by
    refine of16 hn ?_
    have ha0 := ha a0 (by simp)
    obtain ⟨r, hr0⟩ : ∃ r, r = M[a0] := ⟨_, rfl⟩
    have hrok : RwOk n w 10 r := hM r (by rw [hr0]; exact List.getElem_mem _)
    have hpk : pickR M (a0 :: a) = r :: pickR M a := by simp [pickR, List.getD, ha0, hr0]
    have hrs : ∀ f, f ∈ (pickR M a).map Rw.f → ∀ c, sz (f c) 10 := fun f hf c => by
      obtain ⟨r', hr', rfl⟩ := List.mem_map.1 hf
      obtain ⟨j, hj, rfl⟩ := List.mem_map.1 hr'
      have hjM := ha j (by simp [hj])
      have e : M.getD j default = M[j] := by simp [List.getD, hjM]
      rw [e]
      exact sz_f (hM _ (List.getElem_mem _)) c
    rw [hpk, List.map_cons, Dt_cons] at hQ
    obtain ⟨F, hF⟩ : ∃ F : Nat → List Nat → Int, F = fun c rest => r.f c * Dt ((pickR M a).map Rw.f) rest := ⟨_, rfl⟩
    rw [← hF] at hQ
    simp at hl hl6
    have hia : i64s (a0 :: a) = .int .i64 (a0 : Int) :: i64s a := rfl
    have hne : ((a.length : Int) + 1 == 0) = false := by simp
    simp (disch := omega) [c16]
    refine GO_loopN (rdetI i ia ic M (a0 :: a) c F n) c.length ⟨0, n, [], _, ⟨0, 0, 0⟩, 0, by omega, by simp [At, dig_zero]; rfl, rfl, Nat.le_refl _, .inl rfl, Nat.pow_pos (by omega), by rw [Rem_zero]; simp⟩ ?_
    rintro k s ⟨j, nx, B, b0, i1, S, hj, ⟨e1, e2, e3, e4, e5⟩, hb0, hnx, hi1, hSs, hS⟩
    simp at e5
    obtain ⟨e5, e6, e7, e8, e9, e10⟩ := e5
    by_cases hk : j < c.length
    · obtain ⟨x, hx0⟩ : ∃ x, x = c[j] := ⟨_, rfl⟩
      have hxw : x < r.es.length := by rw [hrok.w]; exact hc x (by rw [hx0]; exact List.getElem_mem _)
      obtain ⟨e, he0⟩ : ∃ e, e = r.es[x] := ⟨_, rfl⟩
      have heok : EOk n 10 e := hrok.e e (by rw [he0]; exact List.getElem_mem _)
      obtain ⟨en, el, esz⟩ := heok.is
      have hrx : r.f x = e.num := by simp [Rw.f, hxw, he0]
      have hsl : sliceP 1 ia (PV.int .i64 (a0 : Int) :: i64s a) 1 ((a.length : Int) + 1) = some (.sl ⟨ia.f, ia.g, ia.off + 1⟩ 1 (i64s a)) := by
        have h1 : ¬ ((a.length : Int) + 1 < 1) := by omega
        simp [sliceP]
        refine ⟨by omega, ?_⟩
        rw [List.take_of_length_le (by simp)]
      rw [hia] at e6
      have hrm := Rem_step F hk
      rw [← hx0] at hrm
      simp (disch := omega) [c16L0, e1, e2, e3, e4, e5, e6, e7, e8, e9, e10, hk, hne, ha0, ← hr0, ← hx0, hxw, ← he0, en, el, hsl]
      have hlo : (lessOne c j).length = a.length := by simp [lessOne]; omega
      refine CallK.of (by simp) (without_call (by omega) ic c j hk (by omega) fun i2 n2 g2 d2 => ?_)
      simp (disch := omega) [g2, e1, e2, e3, e4, e5, e6, e7, e8, e9, e10]
      refine CallK.of (by simp) (RefDet_call (n := n2) w i M hMl a (lessOne c j) hlo.symm (by omega) (fun q hq => ha q (by simp [hq])) (fun q hq => hc q ?_) (by omega) _ i2 (hM.mono (by omega)) fun i3 n3 g3 d3 => ?_)
      · rcases List.mem_append.1 hq with h | h
        · exact List.mem_of_mem_take h
        · exact List.mem_of_mem_drop h
      obtain ⟨y, hy⟩ : ∃ y, y = Dt ((pickR M a).map Rw.f) (lessOne c j) := ⟨_, rfl⟩
      have hysz : sz y 97 := by rw [hy]; exact sz_Dt6 hrs (by simp [pickR]; omega) (by omega)
      rw [← hy]
      have hFv : F x (lessOne c j) = e.num * y := by rw [hF, hy, ← hrx]
      obtain ⟨z, hz⟩ : ∃ z, z = e.num * y := ⟨_, rfl⟩
      have hzsz : sz z 107 := by rw [hz]; exact esz.mul hysz
      rw [hFv, ← hz] at hrm
      simp (disch := omega) [g2, g3, e1, e2, e3, e4, e5, e6, e7, e8, e9, e10]
      refine CallK.of (by simp) (RMul_Z (by omega) e.num y z e.i i3 10 97 esz hysz (by omega) hz.symm fun i4 n4 g4 d4 => ?_)
      obtain ⟨d, hd⟩ : ∃ d, d = j % 2 := ⟨_, rfl⟩
      have hrem : ((j : Int).tmod 2) = (d : Int) := by rw [hd]; exact (Int.ofNat_tmod j 2).symm
      have hsg : sgn j = if d = 1 then -1 else 1 := by
        unfold sgn
        by_cases h : j % 2 = 0
        · rw [if_pos h, if_neg (by omega)]
        · rw [if_neg h, if_pos (by omega)]
      have hzs : sz z (110 + j) := hzsz.mono (by omega)
      by_cases hd1 : d = 1
      · rw [hsg, if_pos hd1] at hrm
        simp (disch := omega) [g2, g3, g4, e1, e2, e3, e4, e5, e6, e7, e8, e9, e10, hrem, hd1]
        obtain ⟨v, hv⟩ : ∃ v, v = -z := ⟨_, rfl⟩
        refine CallK.of (by simp) (RNeg_Z (by omega) z v i4 107 hzsz (by omega) hv fun i5 d5 => ?_)
        have hnz : sz v (110 + j) := hzs.le (by rw [hv, Int.natAbs_neg]; omega)
        simp (disch := omega) [g2, g3, g4, e1, e2, e3, e4, e5, e6, e7, e8, e9, e10]
        refine CallK.of (by simp) (RAdd_Z (by omega) S v (S + v) i1 i5 (110 + j) (110 + j) hSs hnz (by omega) rfl fun i6 n6 g6 d6 => ?_)
        simp (disch := omega) [g2, g3, g4, g6, e1, e2, e3, e4, e5, e6, e7, e8, e9, e10]
        refine ⟨k - 1, by omega, j + 1, n6, B ++ [[PV.bool (decide (v < 0)), PV.sl i5 1 (u32s (dig v.natAbs))]], b0, i6, S + v, by omega, ?_, hb0, by omega, d6.le (by omega), hSs.add hnz, by omega⟩
        simp [At, hia, e1, e2, e3, e4, e5, e6, e7, e8, e9, e10]
      · have hd0 : d = 0 := by omega
        rw [hsg, if_neg hd1] at hrm
        simp (disch := omega) [g2, g3, g4, e1, e2, e3, e4, e5, e6, e7, e8, e9, e10, hrem, hd0]
        refine CallK.of (by simp) (RAdd_Z (by omega) S z (S + z) i1 i4 (110 + j) (110 + j) hSs hzs (by omega) rfl fun i6 n6 g6 d6 => ?_)
        simp (disch := omega) [g2, g3, g4, g6, e1, e2, e3, e4, e5, e6, e7, e8, e9, e10]
        refine ⟨k - 1, by omega, j + 1, n6, B ++ [[PV.bool (decide (z < 0)), PV.sl i4 1 (u32s (dig z.natAbs))]], b0, i6, S + z, by omega, ?_, hb0, by omega, d6.le (by omega), hSs.add hzs, by omega⟩
        simp [At, hia, e1, e2, e3, e4, e5, e6, e7, e8, e9, e10]
    · have hjc : j = c.length := by omega
      subst hjc
      rw [Rem_end, Int.add_zero] at hS
      subst hS
      have := hQ i1 nx hnx hi1
      simp only [W] at this
      simpa (disch := omega) [c16L0, c16R0, e1, e2, e3, e4, e5, e6, e7, e8, e9, e10, hb0, hnx] using this
end Go.Proofs.Ytcdkgeeookcoeaa
