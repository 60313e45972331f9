/- Ranks as the program reckons them, by value. -/
import Derived.Test.YtcdkgeeookcoeaaExH
import Derived.Test.YtcdkgeeookcoeaaBvR
set_option linter.unusedVariables false
set_option linter.unusedSimpArgs false
namespace Go.Proofs.Ytcdkgeeookcoeaa
open Go.Proofs

/-- A call's outcome is one. -/
theorem PCall.fix {P : Program} {f : FuncId} {args : List PV} {n : Nat} {Q : PV → Nat → List Nat → Prop} (h : PCall P f args n Q) : ∃ v n' D, n ≤ n' ∧ Q v n' D ∧ ∀ {Q' : PV → Nat → List Nat → Prop}, Q' v n' D → PCall P f args n Q' :=
  let ⟨v, n', D, g, hn, q⟩ := h; ⟨v, n', D, hn, q, fun q' => ⟨v, n', D, g, hn, q'⟩⟩

/-- The minor of two sets of places. -/
def mnr (M : List Rw) (p q : Nat) : Int := Dt ((pickR M (bl 6 p)).map Rw.f) (bl 6 q)
def mnI (M : List Rw) : MInv := fun p q n => 0 < n ↔ mnr M p.toNat q.toNat ≠ 0
theorem bl_low {n m : Nat} (hm : m < 2 ^ n) (hn : n ≤ 6) : bl 6 m = bl n m := by
  rw [bl_bh hn, show bh n 6 m = [] from ?_, List.append_nil]
  unfold bh
  rw [List.filter_eq_nil_iff]
  intro q hq
  rw [List.mem_range'_1] at hq
  rw [Nat.testBit_lt_two_pow (Nat.lt_of_lt_of_le hm (Nat.pow_le_pow_right (by omega) hq.1))]
  simp
theorem full_call {n : Nat} (hn : 0 < n) (i : Sid) (M : List Rw) (w : Nat) (hM : MxOk n w 10 M) (hMl : M.length ≤ 6) (hw : w ≤ 6) (p q : Nat) (hp : p < 2 ^ M.length) (hq : q < 2 ^ w) (hpq : (bl 6 p).length = (bl 6 q).length) {Q : PV → Nat → List Nat → Prop}
    (hQ : ∀ n', n ≤ n' → Q (.bool (decide (mnr M p q ≠ 0))) n' []) : PCall Try.prog 35 [.agg [.sl i 1 (M.map Rw.pv), .map (mnI M)], .int .i64 p, .int .i64 q] n Q := by
  have hp6 : p < 64 := Nat.lt_of_lt_of_le hp (Nat.pow_le_pow_right (by omega) hMl)
  have hq6 : q < 64 := Nat.lt_of_lt_of_le hq (Nat.pow_le_pow_right (by omega) hw)
  have ep := bl_low hp hMl
  have eq := bl_low hq hw
  have h6 := bl_le 6 p
  obtain ⟨v1, n1, D1, g1, ⟨i1, rfl, d1, rfl⟩, c1⟩ := (places_call hn p (by omega) (Q := fun v n' D => ∃ i1, v = .sl i1 1 (i64s (bl 6 p)) ∧ newSid n n' i1 ∧ D = []) fun i1 n1 g1 d1 => ⟨i1, rfl, d1, rfl⟩).fix
  obtain ⟨v2, n2, D2, g2, ⟨i2, rfl, d2, rfl⟩, c2⟩ := (some_call (show 0 < n1 by omega) i i1 M (bl 6 p) (by omega) (by omega) (fun j hj => by rw [ep] at hj; exact (bl_lt hj).1) (Q := fun v n' D => ∃ i1, v = .sl i1 1 ((pickR M (bl 6 p)).map Rw.pv) ∧ newSid n1 n' i1 ∧ D = []) fun i1 n1 g1 d1 => ⟨i1, rfl, d1, rfl⟩).fix
  obtain ⟨v3, n3, D3, g3, ⟨i3, rfl, d3, rfl⟩, c3⟩ := (places_call (show 0 < n2 by omega) q (by omega) (Q := fun v n' D => ∃ i1, v = .sl i1 1 (i64s (bl 6 q)) ∧ newSid n2 n' i1 ∧ D = []) fun i1 n1 g1 d1 => ⟨i1, rfl, d1, rfl⟩).fix
  obtain ⟨v4, n4, D4, g4, ⟨i4, rfl, d4, rfl⟩, c4⟩ := (det_call (show 0 < n3 by omega) i2 i3 (pickR M (bl 6 p)) (bl 6 q) w (fun r hr => by
      obtain ⟨j, hj, rfl⟩ := List.mem_map.1 hr
      rw [ep] at hj
      have hjM := (bl_lt hj).1
      have e : M.getD j default = M[j] := by simp [List.getD, hjM]
      rw [e]
      exact (hM _ (List.getElem_mem _)).mono (by omega)) (by omega) (by simp [pickR, hpq]) (fun c hc => by rw [eq] at hc; exact (bl_lt hc).1) (Q := fun v n' D => ∃ i1, v = W (decide (mnr M p q < 0)) i1 (dig (mnr M p q).natAbs) ∧ newSid n3 n' i1 ∧ D = []) fun i1 n1 g1 d1 => ⟨i1, rfl, d1, rfl⟩).fix
  refine PCall.of_lookup mixed Try.func35 rfl (by kernel_rfl) (by kernel_rfl : comp _ = some c35) 38 rfl [.tmp 6] rfl hn (.bool (decide (mnr M p q ≠ 0))) n4 (by omega) (hQ n4 (by omega)) ?_
  obtain ⟨z, hz⟩ : ∃ z, z = mnr M p q := ⟨_, rfl⟩
  have hzl : ((dig z.natAbs).length : Int) > 0 ↔ z ≠ 0 := by
    by_cases h0 : z = 0
    · subst h0; simp [dig_zero]
    · have : 0 < (dig z.natAbs).length := by
        rcases Nat.eq_zero_or_pos (dig z.natAbs).length with e | e
        · have := dig_eq_nil.1 (List.eq_nil_of_length_eq_zero e); omega
        · exact e
      constructor
      · intro _; exact h0
      · intro _; omega
  rw [← hz]
  rw [← hz] at c4
  rw [PSeqN_cons rfl]
  simp (disch := omega)
  rw [PSeqN_cons rfl]
  simp (disch := omega)
  rw [PSeqN_cons rfl]
  simp (disch := omega)
  rw [PSeqN_cons rfl]
  simp (disch := omega)
  rw [PSeqN_cons rfl]
  simp (disch := omega)
  rw [PSeqN_cons rfl]
  simp (disch := omega)
  rw [PSeqN_cons rfl]
  simp (disch := omega)
  refine ⟨p, q, ⟨rfl, rfl⟩, fun m => ⟨?_, fun hI => ?_⟩⟩
  · rw [PSeqN_cons rfl]
    simp (disch := omega)
    rw [PSeqN_cons rfl]
    simp (disch := omega)
    rw [PSeqN_cons rfl]
    simp (disch := omega)
    rw [PSeqN_cons rfl]
    simp (disch := omega)
    rw [PSeqN_cons rfl]
    simp (disch := omega)
    refine CallK.of (by simp) (c1 ?_)
    simp (disch := omega)
    refine CallK.of (by simp) (c2 ?_)
    simp (disch := omega)
    refine CallK.of (by simp) (c3 ?_)
    simp (disch := omega)
    refine CallK.of (by simp) (c4 ?_)
    have hfv : fieldV Try.prog 30 1 (W (decide (z < 0)) i4 (dig z.natAbs)) = some (.sl i4 1 (u32s (dig z.natAbs))) := by simp [fieldV]
    simp (disch := omega) [hfv]
    refine ⟨p, q, ⟨rfl, rfl⟩, ?_, ?_, by omega⟩
    · unfold mnI
      simp only [Int.toNat_natCast, ← hz]
      exact hzl
    · by_cases h0 : z = 0
      · subst h0; simp [dig_zero]
      · have := hzl.2 h0
        simp [h0]; omega
  · rw [PSeqN_cons rfl]
    simp (disch := omega)
    rw [PSeqN_cons rfl]
    simp (disch := omega)
    rw [PSeqN_cons rfl]
    simp (disch := omega)
    rw [PSeqN_cons rfl]
    simp (disch := omega)
    rw [PSeqN_cons rfl]
    simp (disch := omega)
    unfold mnI at hI
    simp only [Int.toNat_natCast, ← hz] at hI
    refine ⟨?_, by omega⟩
    by_cases h0 : z = 0
    · simp [h0] at hI ⊢; omega
    · simp [h0] at hI ⊢; omega

/-! ### the rank -/
theorem Mf_rows (M : List Rw) {w : Nat} (h : ∀ r, r ∈ M → r.es.length = w) : ∀ i c, w ≤ c → Mf M i c = 0 := fun i c hc => by
  unfold Mf
  cases hi : M[i]? with
  | none => rfl
  | some r =>
    have := h r (List.mem_of_getElem? hi)
    simp only [Rw.f]
    rw [List.getElem?_eq_none (by omega)]
theorem Mf_high (M : List Rw) : ∀ i c, M.length ≤ i → Mf M i c = 0 := fun i c hi => by
  unfold Mf
  rw [List.getElem?_eq_none hi]
theorem mnr_is (M : List Rw) {w p q : Nat} (hMl : M.length ≤ 6) (hw : w ≤ 6) (hp : p < 2 ^ M.length) (hq : q < 2 ^ w) : mnr M p q = Dt ((bl M.length p).map fun i => Mf M i) (bl w q) := by
  unfold mnr
  rw [bl_low hp hMl, bl_low hq hw]
  congr 1
  unfold pickR
  rw [List.map_map]
  refine List.map_congr_left fun j hj => ?_
  have hjM := (bl_lt hj).1
  simp [List.getD, hjM, Mf]
def rankI (i : Sid) (M : List Rw) (w n : Nat) (k : Nat) (s : St) : Prop :=
  ∃ (a b nx : Nat), a + k = 2 ^ M.length ∧ At s 51 [[.sl i 1 (M.map Rw.pv), .map (mnI M)]] nx [(0, .sl i 1 (M.map Rw.pv)), (5, .int .i64 b), (6, .box 0 0), (20, .int .i64 (2 ^ M.length : Nat)), (21, .int .i64 a)] ∧ n ≤ nx ∧ b ≤ 6 ∧
    (b = 0 ∨ ∃ p q, p < 2 ^ M.length ∧ q < 2 ^ w ∧ (bl 6 p).length = b ∧ (bl 6 q).length = b ∧ mnr M p q ≠ 0) ∧
    ∀ p q, p < a → q < 2 ^ w → b < (bl 6 p).length → (bl 6 q).length = (bl 6 p).length → mnr M p q = 0
def rankJ (i : Sid) (M : List Rw) (w n a b kk : Nat) (k : Nat) (s : St) : Prop :=
  ∃ (q nx : Nat), q + k = 2 ^ w ∧ At s 51 [[.sl i 1 (M.map Rw.pv), .map (mnI M)]] nx [(0, .sl i 1 (M.map Rw.pv)), (5, .int .i64 b), (6, .box 0 0), (20, .int .i64 (2 ^ M.length : Nat)), (21, .int .i64 a), (7, .int .i64 a), (8, .int .i64 kk), (32, .int .i64 (2 ^ w : Nat)), (33, .int .i64 q)] ∧ n ≤ nx ∧
    ∀ q', q' < q → (bl 6 q').length = kk → mnr M a q' = 0
theorem Rank_err {n : Nat} (hn : 0 < n) (i : Sid) (M : List Rw) (hM : Fits M) (h : chk M ≠ 0) {Q : PV → Nat → List Nat → Prop}
    (hQ : Q (.tup [.int .i64 0, .int .i64 (chk M)]) n []) : PCall Try.prog 17 [.sl i 1 (M.map Rw.pv)] n Q := by
  refine of17 hn ?_
  simp (disch := omega) [c17]
  refine CallK.of (by simp) (CheckM_call hn i M hM ?_)
  have h' : (chk M != 0) = true := by simpa using h
  simpa (disch := omega) [h, h'] using hQ
set_option maxHeartbeats 1000000 in
theorem Rank_ok {n : Nat} (hn : 0 < n) (i : Sid) (M : List Rw) (w : Nat) (hw0 : w = widthR M) (hM : Fits M) (h : chk M = 0) (hm : MxOk n w 10 M) (hMl : M.length ≤ 6) (hw : w ≤ 6) {Q : PV → Nat → List Nat → Prop}
    (hQ : ∀ (n' b : Nat), n ≤ n' → IsRank (rowsOf M.length (Mf M)) b → b ≤ 6 → Q (.tup [.int .i64 b, .int .i64 0]) n' []) : PCall Try.prog 17 [.sl i 1 (M.map Rw.pv)] n Q := by
  obtain ⟨N, hN⟩ : ∃ N, N = 2 ^ M.length := ⟨_, rfl⟩
  have hN1 : 1 ≤ N := by rw [hN]; exact Nat.one_le_two_pow
  have hN2 : N ≤ 64 := by rw [hN]; exact Nat.pow_le_pow_right (n := 2) (by omega) hMl
  have hshl : binPV Try.prog .shl 3 (.int .i64 1) (.int .i64 (M.length : Int)) = some (.int .i64 (N : Nat)) := by rw [hN]; exact shl_one_i64 (by omega)
  obtain ⟨X, hX⟩ : ∃ X, X = 2 ^ w := ⟨_, rfl⟩
  have hX2 : X ≤ 64 := by rw [hX]; exact Nat.pow_le_pow_right (n := 2) (by omega) hw
  have hshw : binPV Try.prog .shl 3 (.int .i64 1) (.int .i64 (w : Int)) = some (.int .i64 (X : Nat)) := by rw [hX]; exact shl_one_i64 (by omega)
  have hwl := width_lt hM
  refine of17 hn ?_
  simp (disch := omega) [c17]
  refine CallK.of (by simp) (CheckM_call hn i M hM ?_)
  simp (disch := omega) [-binPV_shl, hshl, h]
  refine ⟨mnI M, ?_⟩
  refine GO_loopN (rankI i M w n) N ⟨0, 0, n, by omega, by simp [At, ← hN], Nat.le_refl _, by omega, .inl rfl, fun p q hp => by omega⟩ ?_
  rintro k s ⟨a, b, nx, hak, ⟨e1, e2, e3, e4, e5⟩, hnx, hb6, hP1, hP2⟩
  simp at e5
  rw [show ((2 : Int) ^ M.length) = (N : Nat) by rw [hN]; simp] at e5
  obtain ⟨e5, e6, e7, e8, e9⟩ := e5
  by_cases hk : a < N
  · simp (disch := omega) [-binPV_shl, hshl, c17L1, e1, e2, e3, e4, e5, e6, e7, e8, e9, hk]
    refine CallK.of (by simp) (OnesCount_call (by omega) a (by omega) ?_)
    obtain ⟨kk, hkk⟩ : ∃ kk, kk = (bl 6 a).length := ⟨_, rfl⟩
    rw [← hkk]
    have hkk6 : kk ≤ 6 := by rw [hkk]; exact bl_le 6 a
    by_cases hle : kk ≤ b
    · simp (disch := omega) [c17R0, e1, e2, e3, e4, e5, e6, e7, e8, e9, hle]
      refine ⟨k - 1, by omega, a + 1, b, nx, by omega, by simp [At, e1, e2, e3, e4, e5, e6, e7, e8, e9, hN], hnx, hb6, hP1, fun p q hp hq hbp hpq => ?_⟩
      by_cases hpa : p = a
      · subst hpa; omega
      · exact hP2 p q (by omega) hq hbp hpq
    · simp (disch := omega) [e1, e2, e3, e4, e5, e6, e7, e8, e9, hle]
      refine CallK.of (by simp) (width_call (by omega) i M (by omega) hwl ?_)
      rw [← hw0]
      simp (disch := omega) [-binPV_shl, hshw, e1, e2, e3, e4, e5, e6, e7, e8, e9]
      refine GO_loopN (rankJ i M w n a b kk) X ⟨0, nx, by omega, by simp [At, e1, e2, e3, e4, e5, e6, e7, e8, e9, ← hN, ← hX], hnx, fun q hq => by omega⟩ ?_
      rintro k2 s2 ⟨q, nx2, hqk, ⟨f1, f2, f3, f4, f5⟩, hnx2, hP3⟩
      simp at f5
      rw [show ((2 : Int) ^ M.length) = (N : Nat) by rw [hN]; simp, show ((2 : Int) ^ w) = (X : Nat) by rw [hX]; simp] at f5
      obtain ⟨f5, f6, f7, f8, f9, f10, f11, f12, f13⟩ := f5
      by_cases hk2 : q < X
      · simp (disch := omega) [c17L0, f1, f2, f3, f4, f5, f6, f7, f8, f9, f10, f11, f12, f13, hk2]
        refine CallK.of (by simp) (OnesCount_call (by omega) q (by omega) ?_)
        by_cases hqk2 : (bl 6 q).length = kk
        · simp (disch := omega) [f1, f2, f3, f4, f5, f6, f7, f8, f9, f10, f11, f12, f13, hqk2]
          refine CallK.of (by simp) (full_call (by omega) i M w (hm.mono hnx2) hMl hw a q (by omega) (by omega) (by omega) fun n3 g3 => ?_)
          by_cases hz : mnr M a q = 0
          · simp (disch := omega) [f1, f2, f3, f4, f5, f6, f7, f8, f9, f10, f11, f12, f13, hz, g3]
            refine ⟨k2 - 1, by omega, q + 1, n3, by omega, by simp [At, f1, f2, f3, f4, f5, f6, f7, f8, f9, f10, f11, f12, f13, hN, hX], by omega, fun q' hq' hl => ?_⟩
            by_cases hqq : q' = q
            · subst hqq; exact hz
            · exact hP3 q' (by omega) hl
          · simp (disch := omega) [f1, f2, f3, f4, f5, f6, f7, f8, f9, f10, f11, f12, f13, hz, g3, c17R0]
            refine ⟨k - 1, by omega, a + 1, kk, n3, by omega, by simp [At, f1, f2, f3, f4, f5, f6, f7, f8, f9, f10, f11, f12, f13, hN], by omega, hkk6, .inr ⟨a, q, by omega, by omega, hkk.symm, hqk2, hz⟩, fun p q hp hq hbp hpq => ?_⟩
            by_cases hpa : p = a
            · subst hpa; omega
            · exact hP2 p q (by omega) hq (by omega) hpq
        · simp (disch := omega) [f1, f2, f3, f4, f5, f6, f7, f8, f9, f10, f11, f12, f13, hqk2]
          refine ⟨k2 - 1, by omega, q + 1, nx2, by omega, by simp [At, f1, f2, f3, f4, f5, f6, f7, f8, f9, f10, f11, f12, f13, hN, hX], by omega, fun q' hq' hl => ?_⟩
          by_cases hqq : q' = q
          · subst hqq; exact absurd hl hqk2
          · exact hP3 q' (by omega) hl
      · simp (disch := omega) [c17L0, c17R0, f1, f2, f3, f4, f5, f6, f7, f8, f9, f10, f11, f12, f13, hk2]
        refine ⟨k - 1, by omega, a + 1, b, nx2, by omega, by simp [At, f1, f2, f3, f4, f5, f6, f7, f8, f9, f10, f11, f12, f13, hN], by omega, hb6, hP1, fun p q hp hq hbp hpq => ?_⟩
        by_cases hpa : p = a
        · subst hpa; exact hP3 q (by omega) (by omega)
        · exact hP2 p q (by omega) hq hbp hpq
  · have haN : a = N := by omega
    have hr : IsRank (rowsOf M.length (Mf M)) b := by
      refine rank_minors (w := w) (Mf_rows M fun r hr => (hm r hr).w) ?_ ?_
      · rcases hP1 with h0 | ⟨p, q, h1, h2, h3, h4, h5⟩
        · exact .inl h0
        · refine .inr ⟨p, q, h1, h2, by rw [← bl_low h1 hMl]; exact h3, by rw [← bl_low h2 hw]; exact h4, ?_⟩
          rw [← mnr_is M hMl hw h1 h2]; exact h5
      · intro p q h1 h2 h3 h4
        rw [← mnr_is M hMl hw h1 h2]
        rw [← bl_low h1 hMl] at h3
        rw [← bl_low h1 hMl, ← bl_low h2 hw] at h4
        exact hP2 p q (by omega) h2 h3 h4
    simpa (disch := omega) [c17L1, c17R1, e1, e2, e3, e4, e5, e6, e7, e8, e9, hk, hnx] using hQ nx b hnx hr hb6
end Go.Proofs.Ytcdkgeeookcoeaa
