/- The certificate's rank by value: the numbers, in units of the least power, and the rank of their rows. -/
import Derived.Test.YtphndngifjgeoaaGreatDoorCyE
set_option linter.unusedVariables false
set_option linter.unusedSimpArgs false
set_option maxRecDepth 20000
set_option maxHeartbeats 4000000
namespace Go.Proofs.YtphndngifjgeoaaGreatDoor
open Go.Proofs

theorem mx_fits {n w b : Nat} {M : List Rw} (h : MxOk n w b M) (hM : M.length < 1000000) (hw : w < 1000000) (hb : b < 1000000) : Fits M :=
  ⟨by omega, fun r hr => ⟨by have := (h r hr).w; omega, fun e he => ⟨by have := ((h r hr).e e he).b; omega, ((h r hr).e e he).l⟩⟩⟩
theorem mx_width {n w b : Nat} {M : List Rw} (h : MxOk n w b M) (h0 : 0 < M.length) : widthR M = w := by
  rw [← width_get h0]; exact (h _ (List.getElem_mem _)).w
theorem mx_chk {n w b : Nat} {M : List Rw} (h : MxOk n w b M) (hM : M.length ≤ 6) (hw : w ≤ 6) (hb : b ≤ 80) : chk M = 0 := by
  have h1 : M.all (rowB (widthR M)) = true := by
    rw [List.all_eq_true]
    intro r hr
    have h0 : 0 < M.length := List.length_pos_of_mem hr
    rw [mx_width h h0]
    have := (h r hr).w
    simp [rowB]; omega
  have h2 : rightM M = true := by
    unfold rightM
    rw [List.all_eq_true]
    intro r hr
    rw [List.all_eq_true]
    exact fun e he => ((h r hr).e e he).r
  have h3 : lngM M = false := by
    unfold lngM
    rw [List.any_eq_false]
    intro r hr
    rw [Bool.not_eq_true, List.any_eq_false]
    intro e he
    have := ((h r hr).e e he).b
    simp [lngE]; omega
  rw [chk_end (by omega) h1 h2, h3]; rfl
theorem entZ_ok {n : Nat} {i : Sid} {z : Int} {b : Nat} (hi : i.f < n) (hz : sz z b) (hb : b ≤ 512) : EOk n b (entZ i z) := by
  have := hz.len
  exact ⟨hi, rightW_Z (by omega), Lim.dig _, this⟩

/-! ### rows without columns -/
abbrev Nl : PV := .sl ⟨0, 0, 0⟩ 1 []
def tcI (i : Sid) (m n : Nat) (k : Nat) (s : St) : Prop :=
  ∃ j : Nat, j + k = m ∧ At s 57 [] n [(0, .sl i 1 (List.replicate m Nl)), (13, .sl i 1 (List.replicate m Nl)), (14, .int .i64 m), (15, .int .i64 j)]
def tcJ (i : Sid) (m n : Nat) (k : Nat) (s : St) : Prop :=
  ∃ j : Nat, j + k = m ∧ At s 57 [] n [(0, .sl i 1 (List.replicate m Nl)), (5, .bool false), (32, .sl i 1 (List.replicate m Nl)), (33, .int .i64 m), (34, .int .i64 j)]
def tcK (i : Sid) (m n j : Nat) (k : Nat) (s : St) : Prop :=
  At s 57 [] n [(0, .sl i 1 (List.replicate m Nl)), (5, .bool false), (32, .sl i 1 (List.replicate m Nl)), (33, .int .i64 m), (34, .int .i64 j), (39, .int .i64 0), (40, .int .i64 0)]
theorem CheckThin_call {n : Nat} (hn : 0 < n) (i : Sid) (m : Nat) (hm : m ≤ 6) {Q : PV → Nat → List Nat → Prop} (hQ : Q (.int .i64 0) n []) : PCall Tryz.prog 69 [.sl i 1 (List.replicate m Nl)] n Q := by
  refine of69 hn ?_
  have h6 : ¬ (6 : Int) < (m : Int) := by omega
  simp (disch := omega) [c69, h6, show ¬ 6 < m by omega]
  refine GO_loopN (tcI i m n) m ⟨0, by omega, by simp [At]⟩ ?_
  rintro k s ⟨j, hj, e1, e2, e3, e4, e5⟩
  simp at e5
  obtain ⟨e5, e6, e7, e8⟩ := e5
  by_cases hk : j < m
  · simp (disch := omega) [c69L0, e1, e2, e3, e4, e5, e6, e7, e8, hk, show 0 < m by omega]
    exact ⟨k - 1, by omega, j + 1, by omega, by simp [At, e1, e2, e3, e4, e5, e6, e7, e8]⟩
  · simp (disch := omega) [c69L0, c69R2, e1, e2, e3, e4, e5, e6, e7, e8, hk]
    refine GO_loopN (tcJ i m n) m ⟨0, by omega, by simp [At, e1, e2, e3, e4, e5, e6, e7, e8]⟩ ?_
    rintro k2 s2 ⟨j2, hj2, f1, f2, f3, f4, f5⟩
    simp at f5
    obtain ⟨f5, f6, f7, f8, f9⟩ := f5
    by_cases hk2 : j2 < m
    · simp (disch := omega) [c69L2, f1, f2, f3, f4, f5, f6, f7, f8, f9, hk2]
      refine GO_loopN (tcK i m n j2) 0 (by simp [tcK, At, f1, f2, f3, f4, f5, f6, f7, f8, f9]) ?_
      rintro k3 s3 ⟨q1, q2, q3, q4, q5⟩
      simp at q5
      obtain ⟨q5, q6, q7, q8, q9, q10, q11⟩ := q5
      simp (disch := omega) [c69L1, c69R0, q1, q2, q3, q4, q5, q6, q7, q8, q9, q10, q11]
      exact ⟨k2 - 1, by omega, j2 + 1, by omega, by simp [At, q1, q2, q3, q4, q5, q6, q7, q8, q9, q10, q11]⟩
    · simpa (disch := omega) [c69L2, c69R1, f1, f2, f3, f4, f5, f6, f7, f8, f9, hk2] using hQ
theorem widthThin_call {n : Nat} (hn : 0 < n) (i : Sid) (m : Nat) (hm : m ≤ 6) {Q : PV → Nat → List Nat → Prop} (hQ : Q (.int .i64 0) n []) : PCall Tryz.prog 71 [.sl i 1 (List.replicate m Nl)] n Q := by
  refine of71 hn ?_
  by_cases h : m = 0
  · subst h
    simpa (disch := omega) [c71] using hQ
  · have hm0 : ((m : Int) == 0) = false := by simp; omega
    simpa (disch := omega) [c71, hm0, show 0 < m by omega, h] using hQ
def trI (i : Sid) (m n N : Nat) (I : MInv) (k : Nat) (s : St) : Prop :=
  ∃ a : Nat, a + k = N ∧ At s 51 [[.sl i 1 (List.replicate m Nl), .map I]] n [(0, .sl i 1 (List.replicate m Nl)), (5, .int .i64 0), (6, .box 0 0), (20, .int .i64 N), (21, .int .i64 a)]
def trJ (i : Sid) (m n N : Nat) (I : MInv) (a kk : Nat) (k : Nat) (s : St) : Prop :=
  ∃ q : Nat, q + k = 1 ∧ At s 51 [[.sl i 1 (List.replicate m Nl), .map I]] n [(0, .sl i 1 (List.replicate m Nl)), (5, .int .i64 0), (6, .box 0 0), (20, .int .i64 N), (21, .int .i64 a), (7, .int .i64 a), (8, .int .i64 kk), (32, .int .i64 1), (33, .int .i64 q)]
theorem RankThin_call {n : Nat} (hn : 0 < n) (i : Sid) (m : Nat) (hm : m ≤ 6) {Q : PV → Nat → List Nat → Prop} (hQ : Q (.tup [.int .i64 0, .int .i64 0]) n []) : PCall Tryz.prog 46 [.sl i 1 (List.replicate m Nl)] n Q := by
  obtain ⟨N, hN⟩ : ∃ N, N = 2 ^ m := ⟨_, rfl⟩
  have hN1 : 1 ≤ N := by rw [hN]; exact Nat.one_le_two_pow
  have hN2 : N ≤ 64 := by rw [hN]; exact Nat.pow_le_pow_right (n := 2) (by omega) hm
  have hshl : binPV Tryz.prog .shl 3 (.int .i64 1) (.int .i64 (m : Int)) = some (.int .i64 (N : Nat)) := by rw [hN]; exact shl_one_i64 (by omega)
  have hsh0 : binPV Tryz.prog .shl 3 (.int .i64 1) (.int .i64 0) = some (.int .i64 1) := by simp
  refine of46 hn ?_
  simp (disch := omega) [c46]
  refine CallK.of (by simp) (CheckThin_call hn i m hm ?_)
  simp (disch := omega) [-binPV_shl, hshl]
  refine ⟨fun _ _ _ => True, ?_⟩
  refine GO_loopN (trI i m n N (fun _ _ _ => True)) N ⟨0, by omega, by simp [At]⟩ ?_
  rintro k s ⟨a, ha, e1, e2, e3, e4, e5⟩
  simp at e5
  obtain ⟨e5, e6, e7, e8, e9⟩ := e5
  by_cases hk : a < N
  · simp (disch := omega) [-binPV_shl, hshl, c46L1, e1, e2, e3, e4, e5, e6, e7, e8, e9, hk]
    refine CallK.of (by simp) (OnesCount_call (by omega) a (by omega) ?_)
    obtain ⟨kk, hkk⟩ : ∃ kk, kk = (bl 6 a).length := ⟨_, rfl⟩
    rw [← hkk]
    by_cases hle : kk ≤ 0
    · have hk0 : kk = 0 := by omega
      subst hk0
      simp (disch := omega) [c46R0, e1, e2, e3, e4, e5, e6, e7, e8, e9]
      exact ⟨k - 1, by omega, a + 1, by omega, by simp [At, e1, e2, e3, e4, e5, e6, e7, e8, e9]⟩
    · have hlei : ¬ (kk : Int) ≤ 0 := by omega
      simp (disch := omega) [e1, e2, e3, e4, e5, e6, e7, e8, e9, hlei, hle, show ¬ kk = 0 by omega]
      refine CallK.of (by simp) (widthThin_call (by omega) i m hm ?_)
      simp (disch := omega) [-binPV_shl, hsh0, e1, e2, e3, e4, e5, e6, e7, e8, e9]
      refine GO_loopN (trJ i m n N (fun _ _ _ => True) a kk) 1 ⟨0, by omega, by simp [At, e1, e2, e3, e4, e5, e6, e7, e8, e9]⟩ ?_
      rintro k2 s2 ⟨q, hq, f1, f2, f3, f4, f5⟩
      simp at f5
      obtain ⟨f5, f6, f7, f8, f9, f10, f11, f12, f13⟩ := f5
      by_cases hk2 : q < 1
      · have hq0 : q = 0 := by omega
        subst hq0
        simp (disch := omega) [c46L0, f1, f2, f3, f4, f5, f6, f7, f8, f9, f10, f11, f12, f13]
        refine CallK.of (by simp) (OnesCount_call (by omega) 0 (by omega) ?_)
        have hb0 : (bl 6 0).length = 0 := by decide
        have hne : ((0 : Int) == (kk : Int)) = false := by simp; omega
        rw [hb0]
        simp (disch := omega) [f1, f2, f3, f4, f5, f6, f7, f8, f9, f10, f11, f12, f13, hne, show ¬ (0 = kk) by omega]
        exact ⟨k2 - 1, by omega, 1, by omega, by simp [At, f1, f2, f3, f4, f5, f6, f7, f8, f9, f10, f11, f12, f13]⟩
      · have hq1 : q = 1 := by omega
        subst hq1
        simp (disch := omega) [c46L0, c46R0, f1, f2, f3, f4, f5, f6, f7, f8, f9, f10, f11, f12, f13]
        exact ⟨k - 1, by omega, a + 1, by omega, by simp [At, f1, f2, f3, f4, f5, f6, f7, f8, f9, f10, f11, f12, f13]⟩
  · simpa (disch := omega) [c46L1, c46R1, e1, e2, e3, e4, e5, e6, e7, e8, e9, hk] using hQ

/-! ### the rank of a matrix -/
/-- The matrix's numbers, by places. -/
def mF (r c : Nat) (l : List Nat) : Nat → Nat → Int := fun q p => if q < r ∧ p < c then fv l (q * c + p) else 0
theorem rank_none {A : List (Nat → Int)} (h : ∀ r, r ∈ A → ∀ c, r c = 0) : IsRank A 0 := by
  constructor
  · intro hv
    have := hv [] [] rfl (by simp) rfl
    simp at this
  · intro rs cols h1 h2 h3
    match rs, h1 with
    | [r], _ =>
      rw [Dt_cons, ← Sg_zero cols]
      exact Sg_congr _ fun c rest _ _ => by rw [h r (h2 r (by simp)) c, Int.zero_mul]
theorem shift_back (v : Int) : shZ (dyM v) (dyE v (-1074) + 1074) = v := by
  unfold dyE
  by_cases h : v = 0
  · have h0 : dyM v = 0 := by rw [h]; simp [dyM]
    rw [h0, if_pos h]
    unfold shZ
    rw [if_pos (by omega), Int.zero_mul, h]
  · rw [if_neg h]
    obtain ⟨h1, h2, _⟩ := dyM_back h
    unfold shZ
    rw [if_pos (by omega), show ((-1074 : Int) + (tz v.natAbs : Int) + 1074).toNat = tz v.natAbs by omega]
    exact h2.symm
theorem dyE_bound {v : Int} (h : sz v 66) : 0 ≤ dyE v (-1074) + 1074 ∧ dyE v (-1074) + 1074 ≤ 2112 := by
  by_cases h0 : v = 0
  · subst h0; simp [dyE]
  · have := dyE_le (L := -1074) h0 h
    omega
/-- A row of the whole numbers. -/
def rkR (c : Nat) (l : List Nat) (n nx q : Nat) (r : Rw) : Prop := newSid n nx r.i ∧ r.es.length = c ∧ ∀ p (hp : p < r.es.length), ∃ i', newSid n nx i' ∧ r.es[p] = entZ i' (fv l (q * c + p))
theorem rkR.mono {c : Nat} {l : List Nat} {n nx nx' q : Nat} {r : Rw} (h : rkR c l n nx q r) (hn : nx ≤ nx') : rkR c l n nx' q r :=
  ⟨newSid_up h.1 (Nat.le_refl _) hn, h.2.1, fun p hp => let ⟨i', h1, h2⟩ := h.2.2 p hp; ⟨i', newSid_up h1 (Nat.le_refl _) hn, h2⟩⟩
def rkI (M0 : List PV) (T0 : List PV) (r c : Nat) (l : List Nat) (n : Nat) (k : Nat) (s : St) : Prop :=
  ∃ (i nx : Nat) (o : Sid) (M : List Rw) (B : List (List PV)), i + k = r ∧ At s 57 (M0 :: T0 :: B) nx [(2, .int .i64 0), (5, .box 1 0), (6, .sl o 1 (M.map Rw.pv)), (21, .int .i64 r), (22, .int .i64 i)] ∧
    Grow s.tips n nx o i ∧ n ≤ nx ∧ M.length = i ∧ ∀ q (hq : q < M.length), rkR c l n nx q M[q]
def rkJ (M0 : List PV) (T0 : List PV) (r c : Nat) (l : List Nat) (n i : Nat) (o : Sid) (M : List Rw) (nx0 : Nat) (k : Nat) (s : St) : Prop :=
  ∃ (j nx z : Nat) (q : Sid) (es : List Ent) (B : List (List PV)), j + k = c ∧ At s 57 (M0 :: T0 :: B) nx [(2, .int .i64 0), (5, .box 1 0), (6, .sl o 1 (M.map Rw.pv)), (21, .int .i64 r), (22, .int .i64 i), (7, .int .i64 i), (8, .sl q z (es.map Ent.pv)), (26, .int .i64 c), (27, .int .i64 j)] ∧
    Grow s.tips n nx o i ∧ Grow s.tips n nx q (j * 2) ∧ (o.g = 0 ∨ o.g ≠ q.g) ∧ nx0 ≤ nx ∧ es.length = j ∧ (q.g = 0 ∨ z = 2) ∧ ∀ p (hp : p < es.length), ∃ i', newSid n nx i' ∧ es[p] = entZ i' (fv l (i * c + p))
theorem Rank8_ok {n : Nat} (hn : 0 < n) (r c : Nat) (i : Sid) (l : List Nat) (hb : Bt l) (h : mChk r c l = 0) (hc : 0 < c) {Q : PV → Nat → List Nat → Prop}
    (hQ : ∀ (n' b : Nat), n ≤ n' → IsRank (rowsOf r (mF r c l)) b → b ≤ 6 → Q (.tup [.int .i64 b, .int .i64 0]) n' []) : PCall Tryz.prog 24 [Mx r c i l] n Q := by
  obtain ⟨hm, hf⟩ := mChk_ok h
  obtain ⟨hl, hl36, hr6, hc6⟩ := len36 hm
  refine of24 hn ?_
  simp (disch := omega) [c24]
  refine CallK.of (by simp) (MCheck11_call hn r c i l (by omega) hb ?_)
  rw [h]
  simp (disch := omega) []
  refine CallK.of (by simp) (cof_call hn r c i l (by omega) hb hf fun o n1 z dl g1 d1 hdl hz hv => ?_)
  simp (disch := omega) [g1]
  have ok := ok_of hdl hv (show 0 < n1 by omega) (Nat.le_refl _)
  refine GO_loopN (rkI [.int .i64 (r : Int), .int .i64 (c : Int), .sl i 1 (bts l)] [.int .i64 (r : Int), .int .i64 (c : Int), .sl o z (dl.map (Dv.pv (-1074)))] r c l n) r ⟨0, n1, ⟨0, 0, 0⟩, [], [], by omega, by simp [At], .inl ⟨rfl, rfl⟩, g1, rfl, fun q hq => by simp at hq⟩ ?_
  rintro k s ⟨a, nx, o2, M, B, ha, ⟨e1, e2, e3, e4, e5⟩, hg, hnx, hM, hrows⟩
  simp at e5
  obtain ⟨e5, e6, e7, e8, e9⟩ := e5
  by_cases hk : a < r
  · simp (disch := omega) [c24L1, e1, e2, e3, e4, e5, e6, e7, e8, e9, hk]
    refine GO_loopN (rkJ [.int .i64 (r : Int), .int .i64 (c : Int), .sl i 1 (bts l)] [.int .i64 (r : Int), .int .i64 (c : Int), .sl o z (dl.map (Dv.pv (-1074)))] r c l n a o2 M nx) c ⟨0, nx, 1, ⟨0, 0, 0⟩, [], B, by omega, by simp [At, e1, e2, e3, e4, e5, e6, e7, e8, e9], by simpa using hg, .inl ⟨rfl, rfl⟩, ?_, Nat.le_refl _, rfl, .inl rfl, fun q hq => by simp at hq⟩ ?_
    · by_cases h0 : o2.g = 0
      · exact .inl h0
      · exact .inr h0
    rintro k2 s2 ⟨j, nx2, z2, q2, es, B2, hj, ⟨f1, f2, f3, f4, f5⟩, hg1, hg2, hne, hnx2, hes, hz2, hent⟩
    simp at f5
    obtain ⟨f5, f6, f7, f8, f9, f10, f11, f12, f13⟩ := f5
    by_cases hk2 : j < c
    · obtain ⟨p, hp⟩ : ∃ p, p = a * c + j := ⟨_, rfl⟩
      have hpl : p < dl.length := by rw [hp, hdl, hl]; exact lt_mul_of hk hk2
      have hz3 : z = 3 := hz.resolve_right (fun h => by rw [h] at hpl; simp at hpl)
      obtain ⟨d, hd⟩ : ∃ d, d = dl[p] := ⟨_, rfl⟩
      have hdo := ok.get hpl
      have hdv := hv p hpl (by omega)
      rw [← hd] at hdo hdv
      have hfv : d.v = fv l (a * c + j) := by
        rw [hdv.1, ← hp]; unfold fv; simp [List.getD, show p < l.length by omega]
      simp (disch := omega) [c24L0, f1, f2, f3, f4, f5, f6, f7, f8, f9, f10, f11, f12, f13, hk2]
      refine CallK.of (by simp) (at_call (by omega) r c o z (-1074) dl a j p hp.symm hpl (by omega) hz3 d hd.symm ?_)
      have hsb := shift_back d.v
      have heb := dyE_bound hdo.2
      have hwp : IntKind.i64.wrap (dyE d.v (-1074) + 1074) = dyE d.v (-1074) + 1074 := wrap_i64_is rfl (by omega)
      obtain ⟨E, hE⟩ : ∃ E, E = dyE d.v (-1074) := ⟨_, rfl⟩
      have hszM := (sz_dyM hdo.2).mono (show 66 ≤ 512 by omega)
      obtain ⟨X, hX⟩ : ∃ X, X = dyM d.v := ⟨_, rfl⟩
      simp only [NV, D]
      rw [← hE] at hsb heb hwp ⊢
      rw [← hX] at hsb hszM ⊢
      simp (disch := omega) [-wrap_i64_at, hwp, f1, f2, f3, f4, f5, f6, f7, f8, f9, f10, f11, f12, f13]
      refine CallK.of (by simp) (Shift_Z (by omega) X d.v (E + 1074) d.i hszM hsb (hdo.2.mono (by omega)) (by omega) fun i3 n3 g3 d3 => ?_)
      simp (disch := omega) [f1, f2, f3, f4, f5, f6, f7, f8, f9, f10, f11, f12, f13, g3]
      refine AppK_z (n := n) (nx := n3) (len := j * 2) (tips0 := s2.tips) (T := 2) (by simp) (by simp) (hg2.mono g3) (by simp [hes]) hz2 (by omega) hn (by simp [hes]; omega) (by omega) fun tips i' h1 h2 h3 h4 => ?_
      simp (disch := omega) [f1, f2, f3, f4, f5, f6, f7, f8, f9, f10, f11, f12, f13, g3]
      refine ⟨k2 - 1, by omega, j + 1, n3 + 2, 2, i', es ++ [entZ i3 d.v], B2 ++ [NC (-1074) d.v d.i, [.bool (decide (d.v < 0)), .sl i3 1 (u32s (dig d.v.natAbs))]], by omega, by simp [At, f1, f2, f3, f4, f5, f6, f7, f8, f9, f10, f11, f12, f13, entZ, ← hX, ← hE], by simpa using h4 o2 a (hg1.mono g3) hne, by rw [show (j + 1) * 2 = j * 2 + 2 by omega]; simpa using h3, ?_, by omega, by simp [hes], .inr rfl, fun p' hp' => ?_⟩
      · rcases hg1 with ⟨h, _⟩ | ⟨_, _, _, _, _, h⟩
        · left; rw [h]
        · right; omega
      · by_cases hpe : p' < es.length
        · obtain ⟨i'', t1, t2⟩ := hent p' hpe
          rw [List.getElem_append_left hpe]
          exact ⟨i'', newSid_up t1 (Nat.le_refl _) (by omega), t2⟩
        · have hpj : p' = es.length := by simp at hp'; omega
          subst hpj
          refine ⟨i3, newSid_up d3 (by omega) (by omega), ?_⟩
          rw [List.getElem_append_right (by omega)]
          simp [hes, hfv]
    · have hjc : j = c := by omega
      have hz2' : z2 = 2 := by
        rcases hz2 with h | h
        · rcases hg2 with ⟨_, h0⟩ | ⟨h0, _⟩
          · omega
          · omega
        · exact h
      subst hz2'
      simp (disch := omega) [c24L0, c24R0, c24R1, f1, f2, f3, f4, f5, f6, f7, f8, f9, f10, f11, f12, f13, hk2]
      refine AppK_z (n := n) (nx := nx2) (len := a) (tips0 := s2.tips) (T := 1) (by simp [f3]) (by simp [f3]) hg1 (by simp [hM]) (.inr rfl) (by omega) hn (by simp [hM]; omega) (by omega) fun tips i' h1 h2 h3 h4 => ?_
      simp (disch := omega) [f1, f2, f3, f4, f5, f6, f7, f8, f9, f10, f11, f12, f13]
      refine ⟨k - 1, by omega, a + 1, nx2 + 2, i', M ++ [⟨q2, es⟩], B2, by omega, by simp [At, f1, f2, f3, f4, f5, f6, f7, f8, f9, f10, f11, f12, f13], by simpa using h3, by omega, by simp [hM], fun q hq => ?_⟩
      by_cases hqM : q < M.length
      · rw [List.getElem_append_left hqM]
        exact (hrows q hqM).mono (by omega)
      · have hqe : q = M.length := by simp at hq; omega
        subst hqe
        have e : (M ++ [(⟨q2, es⟩ : Rw)])[M.length] = ⟨q2, es⟩ := by rw [List.getElem_append_right (by omega)]; simp
        rw [e]
        exact ⟨newSid_up hg2.sid (Nat.le_refl _) (by omega), by show es.length = c; omega, fun p hp => by
          obtain ⟨i'', t1, t2⟩ := hent p hp
          exact ⟨i'', newSid_up t1 (Nat.le_refl _) (by omega), by rw [hM]; exact t2⟩⟩
  · have har : a = r := by omega
    have hmx : MxOk nx c 66 M := by
      intro R hR
      obtain ⟨q, hq, rfl⟩ := List.getElem_of_mem hR
      obtain ⟨t1, t2, t3⟩ := hrows q hq
      refine ⟨newSid_lt t1 (by omega), t2, fun e he => ?_⟩
      obtain ⟨p, hp, rfl⟩ := List.getElem_of_mem he
      obtain ⟨i'', u1, u2⟩ := t3 p hp
      rw [u2]
      exact entZ_ok (newSid_lt u1 (by omega)) (sz_fv _ _) (by omega)
    have hMF : Mf M = mF r c l := by
      funext q p
      unfold Mf mF
      by_cases hq : q < M.length
      · obtain ⟨t1, t2, t3⟩ := hrows q hq
        rw [List.getElem?_eq_getElem hq]
        simp only
        unfold Rw.f
        by_cases hp : p < c
        · obtain ⟨i'', u1, u2⟩ := t3 p (by omega)
          rw [List.getElem?_eq_getElem (show p < (M[q]).es.length by omega)]
          simp only
          rw [u2, entZ_num, if_pos ⟨by omega, hp⟩]
        · rw [List.getElem?_eq_none (by omega), if_neg (by omega)]
      · rw [List.getElem?_eq_none (by omega), if_neg (by omega)]
    simp (disch := omega) [c24L1, c24R2, e1, e2, e3, e4, e5, e6, e7, e8, e9, hk]
    have fin : ∀ w, w = widthR M → MxOk nx w 66 M → w ≤ 6 → PCall Tryz.prog 46 [.sl o2 1 (M.map Rw.pv)] nx (fun v n' D => ∃ b : Nat, nx ≤ n' ∧ v = .tup [.int .i64 b, .int .i64 0] ∧ D = [] ∧ IsRank (rowsOf r (mF r c l)) b ∧ b ≤ 6) := by
      intro w hw hmw hw6
      refine Rank_ok (by omega) o2 M w hw (mx_fits hmw (by omega) (by omega) (by omega)) (mx_chk hmw (by omega) hw6 (by omega)) hmw (by omega) hw6 fun n' b g hr hb6 => ⟨b, g, rfl, rfl, ?_, hb6⟩
      rw [hMF, hM, har] at hr
      exact hr
    have fin2 : PCall Tryz.prog 46 [.sl o2 1 (M.map Rw.pv)] nx (fun v n' D => ∃ b : Nat, nx ≤ n' ∧ v = .tup [.int .i64 b, .int .i64 0] ∧ D = [] ∧ IsRank (rowsOf r (mF r c l)) b ∧ b ≤ 6) := by
      by_cases h0 : 0 < M.length
      · exact fin c (mx_width hmx h0).symm hmx hc6
      · have hnil : M = [] := List.eq_nil_of_length_eq_zero (by omega)
        exact fin 0 (by rw [hnil]; rfl) (by rw [hnil]; intro R hR; simp at hR) (by omega)
    obtain ⟨v, n', D, g, ⟨b, g2, rfl, rfl, hr, hb6⟩, hcall⟩ := fin2.fix
    refine CallK.of (by simp) (hcall ?_)
    have := hQ n' b (by omega) hr hb6
    simpa (disch := omega) [e1, e2, e3, e4, e5, e6, e7, e8, e9, g] using ⟨by omega, this⟩
end Go.Proofs.YtphndngifjgeoaaGreatDoor
