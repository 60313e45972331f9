/- The document's rank and the law of ranks, by value. -/
import Derived.Test.YtphndngifjgeoaaDoorCyH
set_option linter.unusedVariables false
set_option linter.unusedSimpArgs false
set_option maxRecDepth 20000
set_option maxHeartbeats 4000000
namespace Go.Proofs.YtphndngifjgeoaaDoor
open Go.Proofs

theorem Level2_call {n : Nat} (hn : 0 < n) (x e E : Int) (ia : Sid) (hia : ia.f < n) (hx : sz x 512) (he : x ≠ 0 → -16384 ≤ e - E ∧ e - E ≤ 16384) (hb : -100000 ≤ e ∧ e ≤ 100000 ∧ -100000 ≤ E ∧ E ≤ 100000) {Q : PV → Nat → List Nat → Prop}
    (hQ : ∀ (i : Sid) (n' : Nat), n ≤ n' → i.f < n' → Q (W (decide (lev x e E < 0)) i (dig (lev x e E).natAbs)) n' []) : PCall Tryd.prog 40 [D (decide (x < 0)) ia (dig x.natAbs) e, .int .i64 E] n Q := by
  have lx := hx.len
  unfold lev at hQ
  refine of40 hn ?_
  by_cases hx0 : x = 0
  · subst hx0
    have := hQ ia n (by omega) hia
    simp [dig_zero, W] at this
    simpa (disch := omega) [c40, dig_zero] using this
  · obtain ⟨hxl, hx2⟩ := dig_ne hx0
    simp only [if_neg hx0, W] at hQ
    have hw1 : IntKind.i64.wrap (e - E) = e - E := wrap_i64_is rfl (by omega)
    simp (disch := omega) [-wrap_i64_at, c40, hx2, hw1]
    refine CallK.of (by simp) (RefShift2_call hn x ia hia hx (e - E) (he hx0) _ rfl fun i n1 g1 b1 => ?_)
    have := hQ i n1 g1 b1
    simpa (disch := omega) [-wrap_i64_at, g1] using this
theorem lev_back (v : Int) : lev (dyM v) (dyE v (-1074)) (-1074) = v := by
  unfold lev
  by_cases h : v = 0
  · have h0 : dyM v = 0 := by rw [h]; simp [dyM]
    rw [if_pos h0, h]
  · rw [if_neg (dyM_back h).1, show dyE v (-1074) - -1074 = dyE v (-1074) + 1074 by omega]
    exact shift_back v
/-- A row of the whole numbers, its limbs where they may be. -/
def rzR (c : Nat) (l : List Nat) (nx q : Nat) (r : Rw) : Prop := r.i.f < nx ∧ r.es.length = c ∧ ∀ p (hp : p < r.es.length), ∃ i' : Sid, i'.f < nx ∧ r.es[p] = entZ i' (fv l (q * c + p))
theorem rzR.mono {c : Nat} {l : List Nat} {nx nx' q : Nat} {r : Rw} (h : rzR c l nx q r) (hn : nx ≤ nx') : rzR c l nx' q r :=
  ⟨Nat.lt_of_lt_of_le h.1 hn, h.2.1, fun p hp => let ⟨i', h1, h2⟩ := h.2.2 p hp; ⟨i', Nat.lt_of_lt_of_le h1 hn, h2⟩⟩
def rzI (M0 : List PV) (r c : Nat) (l : List Nat) (n : Nat) (k : Nat) (s : St) : Prop :=
  ∃ (i nx : Nat) (o : Sid) (M : List Rw), i + k = r ∧ At s 36 [M0] nx [(1, .box 0 0), (3, .sl o 1 (M.map Rw.pv)), (4, .int .i64 i)] ∧ Grow s.tips n nx o i ∧ n ≤ nx ∧ M.length = i ∧ ∀ q (hq : q < M.length), rzR c l nx q M[q]
def rzJ (M0 : List PV) (r c : Nat) (l : List Nat) (n i : Nat) (o : Sid) (M : List Rw) (nx0 : Nat) (k : Nat) (s : St) : Prop :=
  ∃ (j nx : Nat) (q : Sid) (es : List Ent), j + k = c ∧ At s 36 [M0] nx [(1, .box 0 0), (3, .sl o 1 (M.map Rw.pv)), (4, .int .i64 i), (5, .sl q 2 (es.map Ent.pv)), (6, .int .i64 j)] ∧
    Grow s.tips n nx o i ∧ Grow s.tips n nx q (j * 2) ∧ (o.g = 0 ∨ o.g ≠ q.g) ∧ nx0 ≤ nx ∧ es.length = j ∧ ∀ p (hp : p < es.length), ∃ i' : Sid, i'.f < nx ∧ es[p] = entZ i' (fv l (i * c + p))
theorem newSid_f {n n' : Nat} {i : Sid} (h : newSid n n' i) (hn : 0 < n') : i.f < n' := newSid_lt h hn
theorem RefRank11_call {n : Nat} (hn : 0 < n) (r c : Nat) (i : Sid) (l : List Nat) (hb : Bt l) (hl : l.length = r * c) (h6 : r ≤ 6 ∧ c ≤ 6) {Q : PV → Nat → List Nat → Prop}
    (hQ : ∀ (n' b : Nat), n ≤ n' → IsRank (rowsOf r (mF r c l)) b → Q (.int .i64 b) n' []) : PCall Tryd.prog 13 [Mx r c i l] n Q := by
  have hl36 : l.length ≤ 36 := by rw [hl]; exact Nat.mul_le_mul h6.1 h6.2
  refine of13 hn ?_
  simp (disch := omega) [c13]
  refine GO_loopN (rzI [.int .i64 (r : Int), .int .i64 (c : Int), .sl i 1 (bts l)] r c l n) r ⟨0, n + 1, ⟨n, n, 0⟩, [], by omega, by simp [At], by simpa using Grow.fresh _ 0 (Nat.le_refl n) hn (Nat.lt_succ_self n), by omega, rfl, fun q hq => by simp at hq⟩ ?_
  rintro k s ⟨a, nx, o2, M, ha, ⟨e1, e2, e3, e4, e5⟩, hg, hnx, hM, hrows⟩
  simp at e5
  obtain ⟨e5, e6, e7⟩ := e5
  by_cases hk : a < r
  · simp (disch := omega) [c13L1, e1, e2, e3, e4, e5, e6, e7, hk]
    refine GO_loopN (rzJ [.int .i64 (r : Int), .int .i64 (c : Int), .sl i 1 (bts l)] r c l n a o2 M nx) c ⟨0, nx + 1, ⟨nx, nx, 0⟩, [], by omega, by simp [At, e1, e2, e3, e4, e5, e6, e7], ?_, ?_, ?_, by omega, rfl, fun q hq => by simp at hq⟩ ?_
    · simp [e3]
      exact (hg.cons (Nat.le_refl _)).mono (by omega)
    · simp [e3]
      exact Grow.fresh _ 0 hnx (by omega) (by omega)
    · rcases hg with ⟨h, _⟩ | ⟨_, _, _, _, _, h⟩
      · left; rw [h]
      · right; show o2.g ≠ nx; omega
    rintro k2 s2 ⟨j, nx2, q2, es, hj, ⟨f1, f2, f3, f4, f5⟩, hg1, hg2, hne, hnx2, hes, hent⟩
    simp at f5
    obtain ⟨f5, f6, f7, f8, f9⟩ := f5
    by_cases hk2 : j < c
    · have hpl : a * c + j < l.length := by rw [hl]; exact lt_mul_of hk hk2
      obtain ⟨x, hx⟩ : ∃ x, x = l[a * c + j] := ⟨_, rfl⟩
      have hxb : x < 18446744073709551616 := by rw [hx]; exact hb.get hpl
      have hfv : uV x = fv l (a * c + j) := by unfold fv; simp [List.getD, hpl, hx]
      simp (disch := omega) [c13L0, f1, f2, f3, f4, f5, f6, f7, f8, f9, hk2]
      refine CallK.of (by simp) (At_call (by omega) r c i l a j (a * c + j) rfl hpl (by omega) x hx.symm ?_)
      simp (disch := omega) [f1, f2, f3, f4, f5, f6, f7, f8, f9]
      refine CallK.of (by simp) (RefValue2_call (by omega) x hxb fun i1 n1 g1 b1 => ?_)
      rw [uV_NV]
      have hsb := lev_back (uV x)
      have heb := dyE_bound (sz_uV x)
      obtain ⟨E, hE⟩ : ∃ E, E = dyE (uV x) (-1074) := ⟨_, rfl⟩
      have hszM := (sz_dyM (sz_uV x)).mono (show 66 ≤ 512 by omega)
      obtain ⟨X, hX⟩ : ∃ X, X = dyM (uV x) := ⟨_, rfl⟩
      simp only [NV, D]
      rw [← hE] at hsb heb ⊢
      rw [← hX] at hsb hszM ⊢
      simp (disch := omega) [f1, f2, f3, f4, f5, f6, f7, f8, f9, g1]
      refine CallK.of (by simp) (Level2_call (by omega) X E (-1074) i1 (by omega) hszM (by omega) (by omega) fun i3 n3 g3 b3 => ?_)
      rw [hsb]
      simp (disch := omega) [f1, f2, f3, f4, f5, f6, f7, f8, f9, g1, g3]
      refine AppK_z (n := n) (nx := n3) (len := j * 2) (tips0 := s2.tips) (T := 2) (by simp) (by simp) (hg2.mono (by omega)) (by simp [hes]) (.inr rfl) (by omega) hn (by simp [hes]; omega) (by omega) fun tips i' h1 h2 h3 h4 => ?_
      simp (disch := omega) [f1, f2, f3, f4, f5, f6, f7, f8, f9, g1, g3]
      refine ⟨k2 - 1, by omega, j + 1, n3 + 2, i', es ++ [entZ i3 (uV x)], by omega, by simp [At, f1, f2, f3, f4, f5, f6, f7, f8, f9, entZ], by simpa using h4 o2 a (hg1.mono (by omega)) hne, by rw [show (j + 1) * 2 = j * 2 + 2 by omega]; simpa using h3, ?_, by omega, by simp [hes], fun p' hp' => ?_⟩
      · rcases hg1 with ⟨h, _⟩ | ⟨_, _, _, _, _, h⟩
        · left; rw [h]
        · right; omega
      · by_cases hpe : p' < es.length
        · obtain ⟨i'', t1, t2⟩ := hent p' hpe
          rw [List.getElem_append_left hpe]
          exact ⟨i'', by omega, t2⟩
        · have hpj : p' = es.length := by simp at hp'; omega
          subst hpj
          refine ⟨i3, by omega, ?_⟩
          rw [List.getElem_append_right (by omega)]
          simp [hes, hfv]
    · have hjc : j = c := by omega
      simp (disch := omega) [c13L0, c13R0, c13R1, f1, f2, f3, f4, f5, f6, f7, f8, f9, hk2]
      refine AppK_z (n := n) (nx := nx2) (len := a) (tips0 := s2.tips) (T := 1) (by simp [f3]) (by simp [f3]) hg1 (by simp [hM]) (.inr rfl) (by omega) hn (by simp [hM]; omega) (by omega) fun tips i' h1 h2 h3 h4 => ?_
      simp (disch := omega) [f1, f2, f3, f4, f5, f6, f7, f8, f9]
      refine ⟨k - 1, by omega, a + 1, nx2 + 2, i', M ++ [⟨q2, es⟩], by omega, by simp [At, f1, f2, f3, f4, f5, f6, f7, f8, f9], by simpa using h3, by omega, by simp [hM], fun q hq => ?_⟩
      by_cases hqM : q < M.length
      · rw [List.getElem_append_left hqM]
        exact (hrows q hqM).mono (by omega)
      · have hqe : q = M.length := by simp at hq; omega
        subst hqe
        have e : (M ++ [(⟨q2, es⟩ : Rw)])[M.length] = ⟨q2, es⟩ := by rw [List.getElem_append_right (by omega)]; simp
        rw [e]
        exact ⟨newSid_f (newSid_up hg2.sid (Nat.le_refl _) (by omega)) (by omega), by show es.length = c; omega, fun p hp => by
          obtain ⟨i'', t1, t2⟩ := hent p hp
          exact ⟨i'', by omega, by rw [hM]; exact t2⟩⟩
  · have har : a = r := by omega
    have hmz : ZOk nx c 66 M := by
      intro R hR
      obtain ⟨q, hq, rfl⟩ := List.getElem_of_mem hR
      obtain ⟨t1, t2, t3⟩ := hrows q hq
      refine ⟨t1, t2, fun e he => ?_⟩
      obtain ⟨p, hp, rfl⟩ := List.getElem_of_mem he
      obtain ⟨i'', u1, u2⟩ := t3 p hp
      rw [u2]
      exact entZ_can u1 (sz_fv _ _)
    have hMF : Mf M = mF r c l := by
      funext q p
      unfold Mf mF
      by_cases hq : q < M.length
      · obtain ⟨t1, t2, t3⟩ := hrows q hq
        rw [List.getElem?_eq_getElem hq]
        simp only
        unfold Rw.f
        by_cases hp : p < c
        · obtain ⟨i'', u1, u2⟩ := t3 p (by omega)
          rw [List.getElem?_eq_getElem (show p < (M[q]).es.length by omega)]
          simp only
          rw [u2, entZ_num, if_pos ⟨by omega, hp⟩]
        · rw [List.getElem?_eq_none (by omega), if_neg (by omega)]
      · rw [List.getElem?_eq_none (by omega), if_neg (by omega)]
    simp (disch := omega) [c13L1, c13R2, e1, e2, e3, e4, e5, e6, e7, hk]
    have fin : ∀ w, w = widthR M → ZOk nx w 66 M → w ≤ 6 → PCall Tryd.prog 42 [.sl o2 1 (M.map Rw.pv)] nx (fun v n' D => ∃ b : Nat, nx ≤ n' ∧ v = .int .i64 b ∧ D = [] ∧ IsRank (rowsOf r (mF r c l)) b) := by
      intro w hw hmw hw6
      refine RefRank_call (by omega) o2 (newSid_f hg.sid (by omega)) M w 66 hw hmw (by omega) hw6 (by omega) fun n' b g hr => ⟨b, g, rfl, rfl, ?_⟩
      rw [hMF, hM, har] at hr
      exact hr
    have fin2 : PCall Tryd.prog 42 [.sl o2 1 (M.map Rw.pv)] nx (fun v n' D => ∃ b : Nat, nx ≤ n' ∧ v = .int .i64 b ∧ D = [] ∧ IsRank (rowsOf r (mF r c l)) b) := by
      by_cases h0 : 0 < M.length
      · refine fin c ?_ hmz h6.2
        rw [← width_get h0]
        exact (hmz _ (List.getElem_mem _)).2.1.symm
      · have hnil : M = [] := List.eq_nil_of_length_eq_zero (by omega)
        exact fin 0 (by rw [hnil]; rfl) (by rw [hnil]; intro R hR; simp at hR) (by omega)
    obtain ⟨v, n', D, g, ⟨b, g2, rfl, rfl, hr⟩, hcall⟩ := fin2.fix
    refine CallK.of (by simp) (hcall ?_)
    have := hQ n' b (by omega) hr
    simpa (disch := omega) [e1, e2, e3, e4, e5, e6, e7, g] using ⟨by omega, this⟩

theorem mF_rows (r c : Nat) (l : List Nat) : ∀ i k, r ≤ i → mF r c l i k = 0 := fun i k h => by unfold mF; rw [if_neg (by omega)]
theorem mF_cols (r c : Nat) (l : List Nat) : ∀ i k, c ≤ k → mF r c l i k = 0 := fun i k h => by unfold mF; rw [if_neg (by omega)]
theorem mF_turn {r c : Nat} {l T : List Nat} (hT : ∀ a b, a < r → b < c → T.getD (b * r + a) 0 = l.getD (a * c + b) 0) : mF c r T = fun k i => mF r c l i k := by
  funext k i
  unfold mF
  by_cases h : i < r ∧ k < c
  · rw [if_pos ⟨h.2, h.1⟩, if_pos h]
    unfold fv
    rw [hT i k h.1 h.2]
  · rw [if_neg (fun e => h ⟨e.2, e.1⟩), if_neg h]
theorem turn_chk {r c : Nat} {l T : List Nat} (h : mChk r c l = 0) (hTl : T.length = c * r) (hT : ∀ a b, a < r → b < c → T.getD (b * r + a) 0 = l.getD (a * c + b) 0) : mChk c r T = 0 := by
  obtain ⟨hm, hf⟩ := mChk_ok h
  obtain ⟨hl, _, hr, hc⟩ := len36 hm
  have hmT : mOk c r T = true := mOk_iff.2 ⟨by omega, by omega, by omega, by omega, by rw [hTl]; simp⟩
  have hfT : T.all finB = true := by
    rw [List.all_eq_true]
    intro x hx
    obtain ⟨q, hq, rfl⟩ := List.getElem_of_mem hx
    have hr0 : 0 < r := by
      rcases Nat.eq_zero_or_pos r with h | h
      · rw [hTl, h] at hq; simp at hq
      · exact h
    have hq2 : q / r * r + q % r = q := by rw [Nat.mul_comm]; exact Nat.div_add_mod q r
    have hqc : q / r < c := by rw [Nat.div_lt_iff_lt_mul hr0]; rw [hTl] at hq; exact hq
    have := hT (q % r) (q / r) (Nat.mod_lt _ hr0) hqc
    rw [hq2] at this
    have hin : q % r * c + q / r < l.length := by rw [hl]; exact lt_mul_of (Nat.mod_lt _ hr0) hqc
    simp only [List.getD, List.getElem?_eq_getElem hq, List.getElem?_eq_getElem hin, Option.getD_some] at this
    rw [this]
    exact List.all_eq_true.1 hf _ (List.getElem_mem hin)
  unfold mChk
  rw [if_pos hmT, if_pos hfT]
theorem Ranks_law {n : Nat} (hn : 0 < n) (r c : Int) (i : Sid) (l : List Nat) (hl : l.length < 35184372088800) (hb : Bt l) : PCall Tryd.prog 3 [Mx r c i l] n (fun v _ D => v = .bool true ∧ D = []) := by
  refine of3 hn ?_
  by_cases h : mChk r c l = 0
  · obtain ⟨hm, hf⟩ := mChk_ok h
    obtain ⟨m1, m2, m3, m4, m5⟩ := mOk_iff.1 hm
    obtain ⟨R, rfl⟩ : ∃ R : Nat, r = R := ⟨r.toNat, by omega⟩
    obtain ⟨C, rfl⟩ : ∃ C : Nat, c = C := ⟨c.toNat, by omega⟩
    obtain ⟨hlen, hl36, hR6, hC6⟩ := len36 hm
    simp (disch := omega) [c3]
    refine CallK.of (by simp) (Rank8_call hn R C i l hb h fun n1 b g1 hr => ?_)
    simp (disch := omega) [g1]
    refine CallK.of (by simp) (RefMCheck_call (by omega) R C i l (by omega) hb ?_)
    rw [h]
    have hb1 : b ≤ R := rank_le_rows hr
    have hb2 : b ≤ C := rank_le_cols (mF_rows R C l) (mF_cols R C l) hr
    by_cases h12 : 12 < l.length
    · simp (disch := omega) [g1, h12]
      refine CallK.of (by simp) (Tame_call (by omega) R C i l 40 (by omega) hb (by omega) fun n2 g2 => ?_)
      cases ht : (mOk R C l && l.all (tameB 40))
      · obtain ⟨w, hw⟩ : ∃ w, w = min R C := ⟨_, rfl⟩
        have hbw : b ≤ w := by omega
        have hmin : minV (.int .i64 (R : Int)) (.int .i64 (C : Int)) = some (.int .i64 (w : Int)) := by
          rw [minV_int]; congr 2; split <;> omega
        have hb0 : (0 : Int) ≤ (b : Int) := by omega
        simp (disch := omega) [g1, g2, h12, hmin, hbw, hb0]
        refine CallK.of (by simp) (awake_call (by omega) fun n' g => ?_)
        (simp (disch := omega) [g1, g2, g] <;> omega)
      · simp (disch := omega) [g1, g2, h12]
        refine CallK.of (by simp) (Turn_call (by omega) R C i l hb hlen ⟨hR6, hC6⟩ fun o n3 T g3 d3 hTl hTb hT => ?_)
        simp (disch := omega) [g1, g2, g3]
        refine CallK.of (by simp) (Rank8_call (by omega) C R o T hTb (turn_chk h hTl hT) fun n4 b4 g4 hr4 => ?_)
        have hb4 : b4 = b := by
          rw [mF_turn hT] at hr4
          exact hr4.unique (rank_turn (mF_rows R C l) (mF_cols R C l) hr)
        subst hb4
        simp (disch := omega) [g1, g2, g3, g4]
        refine CallK.of (by simp) (RefRank11_call (by omega) R C i l hb hlen ⟨hR6, hC6⟩ fun n5 b5 g5 hr5 => ?_)
        have hb5 : b5 = b4 := hr5.unique hr
        subst hb5
        simp (disch := omega) [g1, g2, g3, g4, g5]
        refine CallK.of (by simp) (awake_call (by omega) fun n' g => ?_)
        (simp (disch := omega) [g1, g2, g3, g4, g5, g] <;> omega)
    · simp (disch := omega) [g1, h12]
      refine CallK.of (by simp) (Turn_call (by omega) R C i l hb hlen ⟨hR6, hC6⟩ fun o n3 T g3 d3 hTl hTb hT => ?_)
      simp (disch := omega) [g1, g3]
      refine CallK.of (by simp) (Rank8_call (by omega) C R o T hTb (turn_chk h hTl hT) fun n4 b4 g4 hr4 => ?_)
      have hb4 : b4 = b := by
        rw [mF_turn hT] at hr4
        exact hr4.unique (rank_turn (mF_rows R C l) (mF_cols R C l) hr)
      subst hb4
      simp (disch := omega) [g1, g3, g4]
      refine CallK.of (by simp) (RefRank11_call (by omega) R C i l hb hlen ⟨hR6, hC6⟩ fun n5 b5 g5 hr5 => ?_)
      have hb5 : b5 = b4 := hr5.unique hr
      subst hb5
      simp (disch := omega) [g1, g3, g4, g5]
      refine CallK.of (by simp) (awake_call (by omega) fun n' g => ?_)
      (simp (disch := omega) [g1, g3, g4, g5, g] <;> omega)
  · simp (disch := omega) [c3]
    refine CallK.of (by simp) (Rank8_err hn r c i l hl hb h ?_)
    simp (disch := omega) []
    refine CallK.of (by simp) (RefMCheck_call hn r c i l hl hb ?_)
    have hne : ((mChk r c l != 0) : Bool) = true := by simpa using h
    simp (disch := omega) [hne]
    refine CallK.of (by simp) (awake_call hn fun n' g => ?_)
    (simp (disch := omega) [g] <;> omega)
end Go.Proofs.YtphndngifjgeoaaDoor
