/- The program's square of what is left of a residual, turned by the first factor, by value. -/
import Derived.Test.YtphndngifjgeoaaDoorCyM
set_option linter.unusedVariables false
set_option linter.unusedSimpArgs false
set_option maxRecDepth 20000
set_option maxHeartbeats 4000000
namespace Go.Proofs.YtphndngifjgeoaaDoor
open Go.Proofs
/-- No number's limbs lie in family f. -/
def awayF (f : Nat) (W : List Dv) : Prop := ∀ d, d ∈ W → ¬ d.i.f = f
theorem poisonL_dvs {f : Nat} {L : Int} : ∀ {W : List Dv}, awayF f W → PV.poisonL [f] (W.map (Dv.pv L)) = W.map (Dv.pv L)
  | [], _ => by simp
  | d :: W, h => by
    have h1 := h d (by simp)
    simp [poisonL_dvs (fun e he => h e (List.mem_cons_of_mem _ he) : awayF f W), h1]
theorem withCells_dv (L : Int) (d e : Dv) : PV.withCells (Dv.pv L d) 0 (NC L e.v e.i) = Dv.pv L e := by simp [PV.withCells]
theorem modify_dvs (L : Int) (e : Dv) : ∀ (W : List Dv) (j : Nat), (W.map (Dv.pv L)).modify j (fun x => x.withCells 0 (NC L e.v e.i)) = (W.set j e).map (Dv.pv L)
  | [], j => by simp
  | d :: W, 0 => by
    have := withCells_dv L d e
    simp [-Dv.pv, this]
  | d :: W, j + 1 => by
    have := modify_dvs L e W j
    simp [-Dv.pv, this]
theorem pvupd_dvs {o : Sid} {L : Int} {W : List Dv} (h : awayF o.f W) (z j : Nat) (e : Dv) : PV.upd o z j 0 (NC L e.v e.i) (.sl o z (W.map (Dv.pv L))) = .sl o z ((W.set j e).map (Dv.pv L)) := by
  simp only [PV.upd, and_self, if_true, poisonL_dvs h, PV.sl.injEq, true_and]
  exact modify_dvs L e W j
theorem pvupd_dvs_other {o i : Sid} {L : Int} {W : List Dv} (h : awayF o.f W) (hi : ¬ i.f = o.f) (z z' j c : Nat) (vs : List PV) : PV.upd o z j c vs (.sl i z' (W.map (Dv.pv L))) = .sl i z' (W.map (Dv.pv L)) := by
  have : ¬ (i = o ∧ z' = z) := fun e => hi (by rw [e.1])
  simp [-List.map_map, PV.upd, this, PV.poison, hi, poisonL_dvs h]
theorem upV_pv2 (l : List Dv) : l.map (Dv.pv (-1074)) = (upV l).map (Dv.pv (-2148)) := upV_pv (-1074) l
theorem fv59 (R C : Int) (i : Sid) (z : Nat) (l : List PV) : fieldV Tryd.prog 59 2 (.agg [.int .i64 R, .int .i64 C, .sl i z l]) = some (.sl i z l) := by simp [fieldV]
def gcI (A : List Dv) (oa : Sid) (za z : Nat) (Bp : List PV) (R C : Nat) (o : Sid) (P : List Dv) (n nP : Nat) (k : Nat) (s : St) : Prop :=
  ∃ (j nx : Nat) (W : List Dv) (B0 B1 B2 r0 B4 : List PV) (Cx : List (List PV)), j + k = A.length ∧ r0.length = 3 ∧ At s 63 (B0 :: B1 :: B2 :: r0 :: B4 :: Bp :: [.int .i64 (R : Int), .int .i64 (C : Int), .sl o z (W.map (Dv.pv (-2148)))] :: Cx) nx [(6, .box 3 0), (10, .box 5 0), (11, .box 6 0), (34, .sl oa za (A.map (Dv.pv (-2148)))), (35, .int .i64 A.length), (36, .int .i64 j)] ∧ s.n0 = n ∧ nP ≤ nx ∧ W.length = P.length ∧
    ∀ q (hq : q < W.length), W[q].v = (if q < j then (P.getD q default).v - (A.getD q default).v else (P.getD q default).v) ∧ ¬ W[q].i.f = o.f ∧ W[q].i.f < nx
theorem Gradient_call {n : Nat} (hn : 0 < n) (ra ca rb cb rc cc : Int) (ia ib ic : Sid) (la lb lc : List Nat) (hla : la.length < 35184372088800) (hlb : lb.length < 35184372088800) (hlc : lc.length < 35184372088800) (ba : Bt la) (bb : Bt lb) (bc : Bt lc) {Q : PV → Nat → List Nat → Prop}
    (hE : resE ra ca rb cb rc cc la lb lc ≠ 0 → Q (.tup [D false ⟨0, 0, 0⟩ [] 0, .int .i64 (resE ra ca rb cb rc cc la lb lc)]) n [])
    (hQ : resE ra ca rb cb rc cc la lb lc = 0 → ∀ (i' : Sid) (n' : Nat), n ≤ n' → newSid n n' i' → Q (.tup [NV (-6444) (grS ra.toNat cb.toNat cc.toNat la lb lc) i', .int .i64 0]) n' []) : PCall Tryd.prog 19 [Mx rb cb ib lb, Mx rc cc ic lc, Mx ra ca ia la] n Q := by
  refine of19 hn ?_
  simp (disch := omega) [c19]
  refine CallK.of (by simp) (Residual_call hn ra ca rb cb rc cc ia ib ic la lb lc hla hlb hlc ba bb bc (fun he => ?_) (fun he i1 n1 g1 d1 => ?_))
  · have hne : ((resE ra ca rb cb rc cc la lb lc != 0) : Bool) = true := by simpa using he
    have := hE he
    simp only [D, u32s_nil] at this
    simpa (disch := omega) [hne] using this
  · have hQ2 := hQ he
    clear hE hQ
    have ha : mChk ra ca la = 0 := by
      unfold resE at he; split at he; exact absurd he ‹_›; rename_i h; exact Classical.not_not.1 h
    have hb : mChk rb cb lb = 0 := by
      unfold resE at he; rw [if_neg (fun h => h ha)] at he; split at he; exact absurd he ‹_›; rename_i h; exact Classical.not_not.1 h
    have hc : mChk rc cc lc = 0 := by
      unfold resE at he; rw [if_neg (fun h => h ha), if_neg (fun h => h hb)] at he; split at he; exact absurd he ‹_›; rename_i h; exact Classical.not_not.1 h
    have hs : ¬ (cb ≠ rc ∨ ra ≠ rb ∨ ca ≠ cc) := by
      unfold resE at he; rw [if_neg (fun h => h ha), if_neg (fun h => h hb), if_neg (fun h => h hc)] at he
      intro h; rw [if_pos h] at he; exact absurd he (by decide)
    have hs1 : cb = rc := by omega
    have hs2 : ra = rb := by omega
    have hs3 : ca = cc := by omega
    obtain ⟨hma, hfa⟩ := mChk_ok ha
    obtain ⟨hmb, hfb⟩ := mChk_ok hb
    obtain ⟨hmc, hfc⟩ := mChk_ok hc
    obtain ⟨m1, m2, m3, m4, m5⟩ := mOk_iff.1 hmb
    obtain ⟨m1c, m2c, m3c, m4c, m5c⟩ := mOk_iff.1 hmc
    clear hs ha hb hc he
    subst hs1 hs2 hs3
    obtain ⟨R, rfl⟩ : ∃ R : Nat, ra = R := ⟨ra.toNat, by omega⟩
    obtain ⟨K, rfl⟩ : ∃ K : Nat, cb = K := ⟨cb.toNat, by omega⟩
    obtain ⟨C, rfl⟩ : ∃ C : Nat, ca = C := ⟨ca.toNat, by omega⟩
    obtain ⟨la1, la2, _, _⟩ := len36 hma
    obtain ⟨lb1, lb2, _, _⟩ := len36 hmb
    obtain ⟨lc1, lc2, _, _⟩ := len36 hmc
    simp only [Int.toNat_natCast] at hQ2
    obtain ⟨RV, hRV⟩ : ∃ x, x = rsS (K : Int).toNat (C : Int).toNat la lb lc := ⟨_, rfl⟩
    rw [← hRV]
    clear hRV
    simp (disch := omega) [g1]
    refine CallK.of (by simp) (cof_call (by omega) R K ib lb (by omega) bb hfb fun o2 n2 z2 Bd g2 d2 hB hzB hvB => ?_)
    simp (disch := omega) [g1, g2]
    refine CallK.of (by simp) (cof_call (by omega) K C ic lc (by omega) bc hfc fun o3 n3 z3 Cd g3 d3 hC hzC hvC => ?_)
    simp (disch := omega) [g1, g2, g3]
    have okB := ok_of hB hvB (show 0 < n3 by omega) g3
    have okC := ok_of hC hvC (show 0 < n3 by omega) (Nat.le_refl _)
    refine CallK.of (by simp) (product_call (by omega) false R K K C o2 o3 z2 z3 (-1074) (-1074) Bd Cd 66 66 K R rfl rfl rfl (by omega) (by omega) (by omega) hzB hzC okB okC (by omega) (by omega) (by omega) (by omega) fun o4 n4 z4 P g4 d4 hP hzP hvP hsP => ?_)
    have okP := prG_ok hvP (prF_sz okB okC (by omega)) (show 0 < n4 by omega) (Nat.le_refl _)
    rw [show (-1074 : Int) + -1074 = -2148 by omega]
    simp (disch := omega) [g1, g2, g3, g4]
    refine CallK.of (by simp) (cof_call (by omega) R C ia la (by omega) ba hfa fun o5 n5 z5 A0 g5 d5 hA0 hzA hvA => ?_)
    have okA := upV_ok (ok_of hA0 hvA (show 0 < n5 by omega) (show n5 ≤ n5 by omega))
    have hAu : ∀ q, ((upV A0).getD q default).v = fv la q * 2 ^ e74 := fun q => by rw [upV_get, fv_of hA0 hvA]
    have hAl : (upV A0).length = la.length := by rw [upV_length, hA0]
    have hzA' : z5 = 3 ∨ upV A0 = [] := by rcases hzA with h | h; exact .inl h; exact .inr (by rw [h]; rfl)
    have hAi : ∀ d, d ∈ upV A0 → newSid n4 n5 d.i := by
      intro d hd
      unfold upV at hd
      obtain ⟨e, hem, rfl⟩ := List.mem_map.1 hd
      obtain ⟨q, hq, rfl⟩ := List.getElem_of_mem hem
      exact (hvA q hq (by omega)).2
    simp (disch := omega) [-List.map_map, g1, g2, g3, g4, g5, fv59]
    rw [upV_pv2 A0, show A0.length = (upV A0).length from (upV_length A0).symm]
    obtain ⟨A, hAd⟩ : ∃ A, A = upV A0 := ⟨_, rfl⟩
    rw [← hAd] at okA hAu hAl hzA' hAi ⊢
    clear hAd hvA hzA hA0
    have hPl : P.length = A.length := by rw [hP, hAl, la1]
    refine GO_loopN (gcI A o5 z5 z4 [.int .i64 (R : Int), .int .i64 (K : Int), .sl o2 z2 (Bd.map (Dv.pv (-1074)))] R C o4 P n n5) A.length ⟨0, n5, P, [.int .i64 (R : Int), .int .i64 (K : Int), .sl ib 1 (bts lb)], [.int .i64 (K : Int), .int .i64 (C : Int), .sl ic 1 (bts lc)], [.int .i64 (R : Int), .int .i64 (C : Int), .sl ia 1 (bts la)], [.bool false, .sl ⟨0, 0, 0⟩ 1 [], .int .i64 0], NC (-4296) RV i1, [], by omega, rfl, by simp [At], by simp, Nat.le_refl _, rfl, fun q hq => ⟨by rw [if_neg (by omega)]; simp [List.getD, hq], ?_, ?_⟩⟩ ?_
    · rcases hsP with ⟨_, h⟩ | ⟨_, _, h⟩
      · rw [h] at hq; simp at hq
      · exact h q hq
    · have := (okP.get hq).1; omega
    rintro k s ⟨j, nx, W, B0, B1, B2, r0, B4, Cx, hj, hr0, ⟨e1, e2, e3, e4, e5⟩, hn0, hnx, hWl, hW⟩
    simp at e5
    obtain ⟨e5, e6, e7, e8, e9, e10⟩ := e5
    by_cases hkj : j < A.length
    · have hz4 : z4 = 3 := hzP.resolve_right (fun h => by rw [h] at hPl; simp at hPl; omega)
      have hz5 : z5 = 3 := hzA'.resolve_right (fun h => by rw [h] at hkj; simp at hkj)
      subst hz4 hz5
      have hog : o4.g ≠ 0 ∧ o4.f < n4 := by
        rcases hsP with ⟨_, h⟩ | ⟨h1, h2, _⟩
        · rw [h] at hPl; simp at hPl; omega
        · exact ⟨h1, h2⟩
      have hof : n3 ≤ o4.f := by
        rcases d4 with h | h
        · exact absurd (by rw [h]) hog.1
        · exact h.1
      have hjW : j < W.length := by omega
      have hjP : j < P.length := by omega
      obtain ⟨x, hx⟩ : ∃ x, x = A[j] := ⟨_, rfl⟩
      obtain ⟨y, hy⟩ : ∃ y, y = W[j] := ⟨_, rfl⟩
      have hxo := okA.get hkj
      have hyo := hW j hjW
      have hpo := (okP.get hjP).2
      rw [← hx] at hxo
      rw [← hy, if_neg (by omega), show P.getD j default = P[j] by simp [List.getD, hjP]] at hyo
      have hys : sz y.v 138 := by rw [hyo.1]; exact hpo
      have hawW : awayF o4.f W := by
        intro d hd
        obtain ⟨q, hq, rfl⟩ := List.getElem_of_mem hd
        exact (hW q hq).2.1
      have hawA : awayF o4.f A := by
        intro d hd
        have := hAi d hd
        rcases this with h | h
        · rw [h]; intro e; have e : 0 = o4.f := e; omega
        · omega
      have hawB : awayF o4.f Bd := by
        intro d hd
        obtain ⟨q, hq, rfl⟩ := List.getElem_of_mem hd
        rcases (hvB q hq (by omega)).2 with h | h
        · rw [h]; intro e; have e : 0 = o4.f := e; omega
        · omega
      have ho5 : ¬ o5.f = o4.f := by
        rcases d5 with h | h
        · rw [h]; intro e; have e : 0 = o4.f := e; omega
        · omega
      have ho2 : ¬ o2.f = o4.f := by
        rcases d2 with h | h
        · rw [h]; intro e; have e : 0 = o4.f := e; omega
        · omega
      simp (disch := omega) [c19L0, -List.map_map, e1, e2, e3, e4, e5, e6, e7, e8, e9, e10, hkj, hjW, ← hx, ← hy, hn0]
      refine CallK.of (by simp) (Sub_V (by omega) (-2148) y.v x.v (y.v - x.v) y.i x.i 138 hys (hxo.2.mono (by omega)) (by omega) (by omega) rfl fun i6 n6 g6 d6 => ?_)
      have hif : ¬ i6.f = o4.f := by
        rcases d6 with h | h
        · rw [h]; intro e; have e : 0 = o4.f := e; omega
        · omega
      obtain ⟨d, hd⟩ : ∃ d : Dv, d = ⟨y.v - x.v, i6⟩ := ⟨_, rfl⟩
      have hdv : y.v - x.v = d.v := by rw [hd]
      have hdi : i6 = d.i := by rw [hd]
      rw [hdv]
      rw [hdi] at hif ⊢
      have hU1 := pvupd_dvs (L := -2148) hawW 3 j d
      have hU2 := pvupd_dvs_other (L := -2148) hawA ho5 3 3 j 0 (NC (-2148) d.v d.i)
      have hU3 := pvupd_dvs_other (L := -1074) hawB ho2 3 z2 j 0 (NC (-2148) d.v d.i)
      simp only [NC] at hU1 hU2 hU3
      simp (disch := omega) [-List.map_map, e1, e2, e3, e4, e5, e6, e7, e8, e9, e10, hkj, hjW, ← hx, ← hy, hn0, hif, hU1, hU2, hU3]
      refine ⟨by omega, k - 1, by omega, j + 1, n6, W.set j d, _, _, _, _, _, _, by omega, ?_, by simp [-List.map_map, At, e1, e2, e3, e4, e5, e6, e7, e8, e9, e10, hU1, hU2, hU3]; exact ⟨⟨rfl, rfl, rfl, rfl, rfl, rfl⟩, by omega⟩, by simp [hn0], by omega, by simp [hWl], ?_⟩
      · rw [updL_length]; exact hr0
      · intro q hq
        by_cases hqj : q = j
        · subst hqj
          rw [List.getElem_set_self, if_pos (by omega)]
          refine ⟨?_, hif, ?_⟩
          · rw [← hdv, hyo.1, show P.getD q default = P[q] by simp [List.getD, hjP], show A.getD q default = x by simp [List.getD, hkj, hx]]
          · rw [← hdi]; exact newSid_lt d6 (by omega)
        · rw [List.getElem_set_ne (Ne.symm hqj)]
          have hqW : q < W.length := by simpa using hq
          obtain ⟨w1, w2, w3⟩ := hW q hqW
          refine ⟨?_, w2, by omega⟩
          rw [w1]
          by_cases hlt : q < j
          · rw [if_pos hlt, if_pos (by omega)]
          · rw [if_neg hlt, if_neg (by omega)]
    · have hjl : j = A.length := by omega
      have hWv : ∀ q, q < W.length → (W.getD q default).v = gdD K C la lb lc q := by
        intro q hq
        have hqP : q < P.length := by omega
        rw [show W.getD q default = W[q] by simp [List.getD, hq], (hW q hq).1, if_pos (by omega), hAu]
        unfold gdD
        congr 1
        rw [show P.getD q default = P[q] by simp [List.getD, hqP], (hvP q hqP).1]
        unfold prF pdF
        refine sumN_congr _ fun i hi => ?_
        rw [fv_of hB hvB, fv_of hC hvC]; rfl
      have okW : DvOk nx 139 W := by
        intro d hd
        obtain ⟨q, hq, rfl⟩ := List.getElem_of_mem hd
        refine ⟨(hW q hq).2.2, ?_⟩
        have := hWv q hq
        rw [show W.getD q default = W[q] by simp [List.getD, hq]] at this
        rw [this]; exact sz_gdD K C (by omega) la lb lc q
      have hzW : z4 = 3 ∨ W = [] := by
        rcases hzP with h | h
        · exact .inl h
        · right; rw [h] at hWl; exact List.eq_nil_of_length_eq_zero hWl
      have okB2 : DvOk nx 66 Bd := okB.mono (by omega) (Nat.le_refl _)
      simp (disch := omega) [c19L0, c19R0, -List.map_map, e1, e2, e3, e4, e5, e6, e7, e8, e9, e10, hkj, hn0]
      refine CallK.of (by simp) (product_call (by omega) true R K R C o2 o4 z2 z4 (-1074) (-2148) Bd W 66 139 R K rfl rfl rfl (by omega) (by omega) (by omega) hzB hzW okB2 okW (by omega) (by omega) (by omega) (by omega) fun o7 n7 z7 G g7 d7 hG hzG hvG _ => ?_)
      have okG := prG_ok hvG (prF_sz okB2 okW (by omega)) (show 0 < n7 by omega) (Nat.le_refl _)
      rw [show (-1074 : Int) + -2148 = -3222 by omega]
      simp (disch := omega) [-List.map_map, e1, e2, e3, e4, e5, e6, e7, e8, e9, e10, hn0, g7]
      have hG36 : G.length ≤ 36 := by rw [hG]; exact Nat.mul_le_mul (show K ≤ 6 by omega) (show C ≤ 6 by omega)
      refine CallK.of (by simp) (noughts_call (by omega) K C o7 z7 (-3222) (-3222) G (by omega) fun o8 n8 g8 d8 => ?_)
      simp (disch := omega) [-List.map_map, -List.map_replicate, e1, e2, e3, e4, e5, e6, e7, e8, e9, e10, hn0, g7, g8]
      refine CallK.of (by simp) (square_call (by omega) K C K C o7 o8 z7 3 (-3222) G (List.replicate G.length ⟨0, ⟨0, 0, 0⟩⟩) 211 (by simp) hG36 hzG (.inl rfl) (okG.mono (by omega) (Nat.le_refl _)) (ok_rep _ _ _ (by omega)) (by omega) (by omega) (by omega) fun i9 n9 g9 d9 => ?_)
      have e : sqS G (List.replicate G.length ⟨0, ⟨0, 0, 0⟩⟩) = grS R K C la lb lc := by
        unfold sqS grS
        rw [hG, sumN_mul, sumN_swap]
        refine sumN_congr _ fun c hc => sumN_congr _ fun a ha => ?_
        have hq : a * C + c < G.length := by rw [hG]; exact lt_mul_of ha hc
        have hd : dfF G (List.replicate (K * C) ⟨0, ⟨0, 0, 0⟩⟩) (a * C + c) = grF R K C la lb lc a c := by
          unfold dfF
          rw [getD_rep, Int.sub_zero, show G.getD (a * C + c) default = G[a * C + c] by simp [List.getD, hq], (hvG _ hq).1]
          rw [show (a * C + c) / C = a by rw [Nat.mul_comm, Nat.mul_add_div (by omega), Nat.div_eq_of_lt hc]; omega, show (a * C + c) % C = c by rw [Nat.mul_comm, Nat.mul_add_mod, Nat.mod_eq_of_lt hc]]
          unfold prF grF
          refine sumN_congr _ fun i hi => ?_
          rw [fv_of hB hvB, hWv (i * C + c) (by rw [hWl, hP]; exact lt_mul_of hi hc)]; rfl
        rw [hd]; rfl
      rw [e]
      have := hQ2 i9 n9 (by omega) (newSid_up d9 (by omega) (Nat.le_refl _))
      simp only [NV, D] at this
      simpa (disch := omega) [-List.map_map, e1, e2, e3, e4, e5, e6, e7, e8, e9, e10, hn0, g7, g8, g9, hr0] using ⟨by omega, this⟩
end Go.Proofs.YtphndngifjgeoaaDoor
