/- The certificate's square and residual by value: what they are, or why there is none. -/
import Derived.Test.YtphndngifjgeoaaGreatDoorCyD
set_option linter.unusedVariables false
set_option linter.unusedSimpArgs false
set_option maxRecDepth 20000
set_option maxHeartbeats 4000000
namespace Go.Proofs.YtphndngifjgeoaaGreatDoor
open Go.Proofs

theorem getD_ge {α : Type} {l : List α} {q : Nat} {d : α} (h : l.length ≤ q) : l.getD q d = d := by simp [List.getD, List.getElem?_eq_none h]
/-- The number of bits by which the units differ. -/
def e74 : Nat := 1074
theorem e74_eq : e74 = 1074 := rfl
/-- A matrix's number at a place, in units of 2 to the -1074. -/
def fv (l : List Nat) (q : Nat) : Int := uV (l.getD q 0)
theorem uV_zero : uV 0 = 0 := by decide
theorem sz_fv (l : List Nat) (q : Nat) : sz (fv l q) 66 := sz_uV _
theorem fv_of {l : List Nat} {dl : List Dv} {n nx : Nat} (h : dl.length = l.length) (hv : ∀ q (hq : q < dl.length) (hq2 : q < l.length), dl[q].v = uV l[q] ∧ newSid n nx dl[q].i) (q : Nat) : (dl.getD q default).v = fv l q := by
  unfold fv
  by_cases hq : q < l.length
  · have := (hv q (by omega) hq).1
    simp [List.getD, hq, show q < dl.length by omega, this]
  · rw [getD_ge (by omega), getD_ge (by omega), uV_zero]; rfl
theorem ok_of {l : List Nat} {dl : List Dv} {n nx nx' : Nat} (h : dl.length = l.length) (hv : ∀ q (hq : q < dl.length) (hq2 : q < l.length), dl[q].v = uV l[q] ∧ newSid n nx dl[q].i) (h0 : 0 < nx') (hn : nx ≤ nx') : DvOk nx' 66 dl := by
  intro d hd
  obtain ⟨q, hq, rfl⟩ := List.getElem_of_mem hd
  obtain ⟨h1, h2⟩ := hv q hq (by omega)
  refine ⟨?_, by rw [h1]; exact sz_uV _⟩
  rcases h2 with h | h
  · rw [h]; exact h0
  · omega
/-- The sum of a matrix's squares. -/
def sqM (l : List Nat) : Int := sumN (fun q => fv l q * fv l q) l.length
theorem getD_rep (k q : Nat) : ((List.replicate k (⟨0, ⟨0, 0, 0⟩⟩ : Dv)).getD q default).v = 0 := by
  by_cases h : q < k
  · simp [List.getD, h]
  · rw [getD_ge (by simp; omega)]; rfl
theorem ok_rep (k n m : Nat) (hn : 0 < n) : DvOk n m (List.replicate k (⟨0, ⟨0, 0, 0⟩⟩ : Dv)) := by
  intro d hd
  rw [List.mem_replicate] at hd
  rw [hd.2]
  exact ⟨hn, sz_zero _⟩
theorem len36 {r c : Nat} {l : List Nat} (h : mOk r c l = true) : l.length = r * c ∧ l.length ≤ 36 ∧ r ≤ 6 ∧ c ≤ 6 := by
  obtain ⟨h1, h2, h3, h4, h5⟩ := mOk_iff.1 h
  have e : l.length = r * c := by rw [← Int.natCast_mul] at h5; omega
  have hr : r ≤ 6 := by omega
  have hc : c ≤ 6 := by omega
  exact ⟨e, by rw [e]; exact Nat.mul_le_mul hr hc, hr, hc⟩
theorem Square_ok {n : Nat} (hn : 0 < n) (r c : Nat) (i : Sid) (l : List Nat) (hb : Bt l) (h : mChk r c l = 0) {Q : PV → Nat → List Nat → Prop}
    (hQ : ∀ (i' : Sid) (n' : Nat), n ≤ n' → newSid n n' i' → Q (.tup [NV (-2148) (sqM l) i', .int .i64 0]) n' []) : PCall Tryz.prog 4 [Mx r c i l] n Q := by
  have hm : mOk r c l = true := by
    by_cases hm : mOk r c l = true
    · exact hm
    · unfold mChk at h; rw [if_neg hm] at h; omega
  have hf : l.all finB = true := by
    by_cases hf : l.all finB = true
    · exact hf
    · unfold mChk at h; rw [if_pos hm, if_neg hf] at h; omega
  obtain ⟨hl, hl36, _, _⟩ := len36 hm
  refine of4 hn ?_
  simp (disch := omega) [c4]
  refine CallK.of (by simp) (MCheck11_call hn r c i l (by omega) hb ?_)
  rw [h]
  simp (disch := omega) []
  refine CallK.of (by simp) (cof_call hn r c i l (by omega) hb hf fun o n1 z dl g1 d1 hdl hz hv => ?_)
  simp (disch := omega) [g1]
  refine CallK.of (by simp) (noughts_call (by omega) r c o z (-1074) (-1074) dl (by omega) fun o2 n2 g2 d2 => ?_)
  obtain ⟨rp, hrp⟩ : ∃ rp : List Dv, rp = List.replicate dl.length ⟨0, ⟨0, 0, 0⟩⟩ := ⟨_, rfl⟩
  rw [← hrp]
  simp (disch := omega) [g1, g2]
  refine CallK.of (by simp) (square_call (by omega) r c r c o o2 z 3 (-1074) dl rp 66 (by simp [hrp]) (by omega) hz (.inl rfl) (ok_of hdl hv (by omega) (by omega)) (by rw [hrp]; exact ok_rep _ _ _ (by omega)) (by omega) (by omega) (by omega) fun i3 n3 g3 d3 => ?_)
  have e : sqS dl rp = sqM l := by
    rw [hrp]
    unfold sqS sqM
    rw [hdl]
    refine sumN_congr _ fun q hq => ?_
    unfold dfF
    rw [getD_rep, fv_of hdl hv, Int.sub_zero]
  rw [e]
  have := hQ i3 n3 (by omega) (newSid_up d3 (by omega) (Nat.le_refl _))
  simp only [NV, D] at this
  simpa (disch := omega) [g1, g2, g3] using ⟨by omega, this⟩
theorem Square_err {n : Nat} (hn : 0 < n) (r c : Int) (i : Sid) (l : List Nat) (hl : l.length < 35184372088800) (hb : Bt l) (h : mChk r c l ≠ 0) {Q : PV → Nat → List Nat → Prop}
    (hQ : Q (.tup [D false ⟨0, 0, 0⟩ [] 0, .int .i64 (mChk r c l)]) n []) : PCall Tryz.prog 4 [Mx r c i l] n Q := by
  refine of4 hn ?_
  simp (disch := omega) [c4]
  refine CallK.of (by simp) (MCheck11_call hn r c i l hl hb ?_)
  have hne : ((mChk r c l != 0) : Bool) = true := by simpa using h
  simp only [D, u32s_nil] at hQ
  simpa (disch := omega) [hne] using hQ

/-! ### the residual -/
def resE (ra ca rb cb rc cc : Int) (la lb lc : List Nat) : Int :=
  if mChk ra ca la ≠ 0 then mChk ra ca la else if mChk rb cb lb ≠ 0 then mChk rb cb lb else if mChk rc cc lc ≠ 0 then mChk rc cc lc else if cb ≠ rc ∨ ra ≠ rb ∨ ca ≠ cc then 3 else 0
def pdF (cb cc : Nat) (lb lc : List Nat) (i k : Nat) : Int := sumN (fun j => fv lb (i * cb + j) * fv lc (j * cc + k)) cb
def rsD (cb cc : Nat) (la lb lc : List Nat) (q : Nat) : Int := fv la q * 2 ^ e74 - pdF cb cc lb lc (q / cc) (q % cc)
def rsS (cb cc : Nat) (la lb lc : List Nat) : Int := sumN (fun q => rsD cb cc la lb lc q * rsD cb cc la lb lc q) la.length
def upV (l : List Dv) : List Dv := l.map fun d => ⟨d.v * 2 ^ e74, d.i⟩
theorem upV_pv (L : Int) (l : List Dv) : l.map (Dv.pv L) = (upV l).map (Dv.pv (L - 1074)) := by
  unfold upV
  rw [List.map_map]
  refine List.map_congr_left fun d _ => ?_
  exact NV_units L d.v e74 d.i
theorem upV_length (l : List Dv) : (upV l).length = l.length := by simp [upV]
theorem upV_get (l : List Dv) (q : Nat) : ((upV l).getD q default).v = (l.getD q default).v * 2 ^ e74 := by
  unfold upV
  by_cases h : q < l.length
  · simp [List.getD, h]
  · rw [getD_ge (by simp; omega), getD_ge (by omega)]; show (0 : Int) = 0 * _; rw [Int.zero_mul]
theorem sz_up {v : Int} {k : Nat} (h : sz v k) : sz (v * 2 ^ e74) (k + 34) := by
  have : shZ v (e74 : Nat) = v * 2 ^ e74 := by unfold shZ; rw [if_pos (by omega)]; rfl
  rw [← this]
  exact shZ_sz rfl h (by have := e74_eq; omega)
theorem upV_ok {n k : Nat} {l : List Dv} (h : DvOk n k l) : DvOk n (k + 34) (upV l) := by
  intro d hd
  unfold upV at hd
  obtain ⟨x, hx, rfl⟩ := List.mem_map.1 hd
  exact ⟨(h x hx).1, sz_up (h x hx).2⟩
theorem prG_ok {t : Bool} {ca cb : Nat} {A B : List Dv} {nn n nx nx' p : Nat} {P : List Dv} (h : prG t ca cb A B nn n nx P) (hp : ∀ i k, sz (prF t ca cb A B nn i k) p) (h0 : 0 < nx') (hn : nx ≤ nx') : DvOk nx' p P := by
  intro d hd
  obtain ⟨q, hq, rfl⟩ := List.getElem_of_mem hd
  obtain ⟨h1, h2⟩ := h q hq
  refine ⟨?_, by rw [h1]; exact hp _ _⟩
  rcases h2 with h | h
  · rw [h]; exact h0
  · omega
theorem DvOk.getD {n k : Nat} {l : List Dv} (h : DvOk n k l) (q : Nat) : sz (l.getD q default).v k := by
  by_cases hq : q < l.length
  · have := (h.get hq).2
    simpa [List.getD, hq] using this
  · rw [getD_ge (by omega)]; exact sz_zero _
theorem prF_sz {t : Bool} {ca cb : Nat} {A B : List Dv} {nn n ka kb : Nat} (h1 : DvOk n ka A) (h2 : DvOk n kb B) (hn : nn ≤ 6) (i k : Nat) : sz (prF t ca cb A B nn i k) (ka + kb + 6) :=
  (sz_sumN nn fun q _ => (h1.getD _).mul (h2.getD _)).mono (by omega)
theorem mChk_ok {r c : Int} {l : List Nat} (h : mChk r c l = 0) : mOk r c l = true ∧ l.all finB = true := by
  by_cases hm : mOk r c l = true
  · refine ⟨hm, ?_⟩
    by_cases hf : l.all finB = true
    · exact hf
    · unfold mChk at h; rw [if_pos hm, if_neg hf] at h; omega
  · unfold mChk at h; rw [if_neg hm] at h; omega

abbrev mxc (r c : Int) (i : Sid) (l : List Nat) : List PV := [.int .i64 r, .int .i64 c, .sl i 1 (bts l)]
abbrev mx3 (ra ca rb cb rc cc : Int) (ia ib ic : Sid) (la lb lc : List Nat) : List PV := [.int .i64 ra, .int .i64 ca, .sl ia 1 (bts la), .int .i64 rb, .int .i64 cb, .sl ib 1 (bts lb), .int .i64 rc, .int .i64 cc, .sl ic 1 (bts lc)]
theorem mx3_0 (ra ca rb cb rc cc : Int) (ia ib ic : Sid) (la lb lc : List Nat) : indexV Tryz.prog 72 (.agg (mx3 ra ca rb cb rc cc ia ib ic la lb lc)) (.int .i64 0) = some (.agg (mxc ra ca ia la)) := by simp [indexV, loadP]
theorem mx3_1 (ra ca rb cb rc cc : Int) (ia ib ic : Sid) (la lb lc : List Nat) : indexV Tryz.prog 72 (.agg (mx3 ra ca rb cb rc cc ia ib ic la lb lc)) (.int .i64 1) = some (.agg (mxc rb cb ib lb)) := by simp [indexV, loadP]
theorem mx3_2 (ra ca rb cb rc cc : Int) (ia ib ic : Sid) (la lb lc : List Nat) : indexV Tryz.prog 72 (.agg (mx3 ra ca rb cb rc cc ia ib ic la lb lc)) (.int .i64 2) = some (.agg (mxc rc cc ic lc)) := by simp [indexV, loadP]
def rsI (ra ca rb cb rc cc : Int) (ia ib ic : Sid) (la lb lc : List Nat) (n : Nat) (k : Nat) (s : St) : Prop :=
  ∃ (j : Nat) (B : List (List PV)), j + k = 3 ∧ At s 53 (mxc ra ca ia la :: mxc rb cb ib lb :: mxc rc cc ic lc :: [.bool false, .sl ⟨0, 0, 0⟩ 1 [], .int .i64 0] :: B) n
      [(3, .box 0 0), (4, .box 1 0), (5, .box 2 0), (6, .box 3 0), (7, .int .i64 0), (14, .agg (mx3 ra ca rb cb rc cc ia ib ic la lb lc)), (15, .int .i64 j)] ∧
    (1 ≤ j → mChk ra ca la = 0) ∧ (2 ≤ j → mChk rb cb lb = 0) ∧ (3 ≤ j → mChk rc cc lc = 0)
theorem Residual_call {n : Nat} (hn : 0 < n) (ra ca rb cb rc cc : Int) (ia ib ic : Sid) (la lb lc : List Nat) (hla : la.length < 35184372088800) (hlb : lb.length < 35184372088800) (hlc : lc.length < 35184372088800) (ba : Bt la) (bb : Bt lb) (bc : Bt lc) {Q : PV → Nat → List Nat → Prop}
    (hE : resE ra ca rb cb rc cc la lb lc ≠ 0 → Q (.tup [D false ⟨0, 0, 0⟩ [] 0, .int .i64 (resE ra ca rb cb rc cc la lb lc)]) n [])
    (hQ : resE ra ca rb cb rc cc la lb lc = 0 → ∀ (i' : Sid) (n' : Nat), n ≤ n' → newSid n n' i' → Q (.tup [NV (-4296) (rsS cb.toNat cc.toNat la lb lc) i', .int .i64 0]) n' []) : PCall Tryz.prog 22 [Mx ra ca ia la, Mx rb cb ib lb, Mx rc cc ic lc] n Q := by
  refine of22 hn ?_
  simp (disch := omega) [c22]
  refine GO_loopN (rsI ra ca rb cb rc cc ia ib ic la lb lc n) 3 ⟨0, [], by omega, by simp [At], by omega, by omega, by omega⟩ ?_
  rintro k s ⟨j, B, hj, ⟨e1, e2, e3, e4, e5⟩, ha, hb, hc⟩
  simp at e5
  obtain ⟨e5, e6, e7, e8, e9, e10, e11⟩ := e5
  have hj3 : j = 0 ∨ j = 1 ∨ j = 2 ∨ j = 3 := by omega
  rcases hj3 with rfl | rfl | rfl | rfl
  · simp (disch := omega) [c22L0, mx3_0, e1, e2, e3, e4, e5, e6, e7, e8, e9, e10, e11]
    refine CallK.of (by simp) (MCheck11_call hn ra ca ia la hla ba ?_)
    by_cases h0 : mChk ra ca la = 0
    · rw [h0]
      simp (disch := omega) [e1, e2, e3, e4, e5, e6, e7, e8, e9, e10, e11]
      exact ⟨2, by omega, 1, B ++ [mxc ra ca ia la], by omega, by simp [At, e1, e2, e3, e4, e5, e6, e7, e8, e9, e10, e11], fun _ => h0, by omega, by omega⟩
    · have hne : ((mChk ra ca la != 0) : Bool) = true := by simpa using h0
      have hre : resE ra ca rb cb rc cc la lb lc = mChk ra ca la := by
        unfold resE
        rw [if_pos h0]
      have := hE (by rw [hre]; exact h0)
      rw [hre] at this
      simp only [D, u32s_nil] at this
      simpa (disch := omega) [hne, e1, e2, e3, e4, e5, e6, e7, e8, e9, e10, e11] using this
  · simp (disch := omega) [c22L0, mx3_1, e1, e2, e3, e4, e5, e6, e7, e8, e9, e10, e11]
    refine CallK.of (by simp) (MCheck11_call hn rb cb ib lb hlb bb ?_)
    by_cases h0 : mChk rb cb lb = 0
    · rw [h0]
      simp (disch := omega) [e1, e2, e3, e4, e5, e6, e7, e8, e9, e10, e11]
      exact ⟨1, by omega, 2, B ++ [mxc rb cb ib lb], by omega, by simp [At, e1, e2, e3, e4, e5, e6, e7, e8, e9, e10, e11], fun _ => ha (by omega), fun _ => h0, by omega⟩
    · have hne : ((mChk rb cb lb != 0) : Bool) = true := by simpa using h0
      have hre : resE ra ca rb cb rc cc la lb lc = mChk rb cb lb := by
        unfold resE
        rw [if_neg (show ¬ mChk ra ca la ≠ 0 from fun h => h (ha (by omega)))]
        rw [if_pos h0]
      have := hE (by rw [hre]; exact h0)
      rw [hre] at this
      simp only [D, u32s_nil] at this
      simpa (disch := omega) [hne, e1, e2, e3, e4, e5, e6, e7, e8, e9, e10, e11] using this
  · simp (disch := omega) [c22L0, mx3_2, e1, e2, e3, e4, e5, e6, e7, e8, e9, e10, e11]
    refine CallK.of (by simp) (MCheck11_call hn rc cc ic lc hlc bc ?_)
    by_cases h0 : mChk rc cc lc = 0
    · rw [h0]
      simp (disch := omega) [e1, e2, e3, e4, e5, e6, e7, e8, e9, e10, e11]
      exact ⟨0, by omega, 3, B ++ [mxc rc cc ic lc], by omega, by simp [At, e1, e2, e3, e4, e5, e6, e7, e8, e9, e10, e11], fun _ => ha (by omega), fun _ => hb (by omega), fun _ => h0⟩
    · have hne : ((mChk rc cc lc != 0) : Bool) = true := by simpa using h0
      have hre : resE ra ca rb cb rc cc la lb lc = mChk rc cc lc := by
        unfold resE
        rw [if_neg (show ¬ mChk ra ca la ≠ 0 from fun h => h (ha (by omega)))]
        rw [if_neg (show ¬ mChk rb cb lb ≠ 0 from fun h => h (hb (by omega)))]
        rw [if_pos h0]
      have := hE (by rw [hre]; exact h0)
      rw [hre] at this
      simp only [D, u32s_nil] at this
      simpa (disch := omega) [hne, e1, e2, e3, e4, e5, e6, e7, e8, e9, e10, e11] using this
  · have ha := ha (by omega)
    have hb := hb (by omega)
    have hc := hc (by omega)
    have hre : resE ra ca rb cb rc cc la lb lc = if cb ≠ rc ∨ ra ≠ rb ∨ ca ≠ cc then 3 else 0 := by
      unfold resE
      rw [if_neg (show ¬ mChk ra ca la ≠ 0 from fun h => h ha), if_neg (show ¬ mChk rb cb lb ≠ 0 from fun h => h hb), if_neg (show ¬ mChk rc cc lc ≠ 0 from fun h => h hc)]
    have hbad : (cb ≠ rc ∨ ra ≠ rb ∨ ca ≠ cc) → Q (.tup [.agg [.bool false, .sl ⟨0, 0, 0⟩ 1 [], .int .i64 0], .int .i64 3]) n [] := fun h => by
      rw [if_pos h] at hre
      have := hE (by rw [hre]; decide)
      rw [hre] at this
      simpa only [D, u32s_nil] using this
    by_cases hs1 : cb = rc
    · by_cases hs2 : ra = rb
      · by_cases hs3 : ca = cc
        · have hQ2 := hQ (by rw [hre, if_neg]; simp [hs1, hs2, hs3])
          obtain ⟨hma, hfa⟩ := mChk_ok ha
          obtain ⟨hmb, hfb⟩ := mChk_ok hb
          obtain ⟨hmc, hfc⟩ := mChk_ok hc
          obtain ⟨m1, m2, m3, m4, m5⟩ := mOk_iff.1 hmb
          obtain ⟨m1c, m2c, m3c, m4c, m5c⟩ := mOk_iff.1 hmc
          clear hE hbad ha hb hc hre hQ
          subst hs1 hs2 hs3
          obtain ⟨R, rfl⟩ : ∃ R : Nat, ra = R := ⟨ra.toNat, by omega⟩
          obtain ⟨K, rfl⟩ : ∃ K : Nat, cb = K := ⟨cb.toNat, by omega⟩
          obtain ⟨C, rfl⟩ : ∃ C : Nat, ca = C := ⟨ca.toNat, by omega⟩
          obtain ⟨la1, la2, _, _⟩ := len36 hma
          obtain ⟨lb1, lb2, _, _⟩ := len36 hmb
          obtain ⟨lc1, lc2, _, _⟩ := len36 hmc
          simp only [Int.toNat_natCast] at hQ2
          simp (disch := omega) [c22L0, c22R0, e1, e2, e3, e4, e5, e6, e7, e8, e9, e10, e11]
          refine CallK.of (by simp) (cof_call (by omega) R C ia la (by omega) ba hfa fun o1 n1 z1 A g1 d1 hA hzA hvA => ?_)
          simp (disch := omega) [e1, e2, e3, e4, e5, e6, e7, e8, e9, e10, e11, g1]
          refine CallK.of (by simp) (cof_call (by omega) R K ib lb (by omega) bb hfb fun o2 n2 z2 Bd g2 d2 hB hzB hvB => ?_)
          simp (disch := omega) [e1, e2, e3, e4, e5, e6, e7, e8, e9, e10, e11, g1, g2]
          refine CallK.of (by simp) (cof_call (by omega) K C ic lc (by omega) bc hfc fun o3 n3 z3 Cd g3 d3 hC hzC hvC => ?_)
          simp (disch := omega) [e1, e2, e3, e4, e5, e6, e7, e8, e9, e10, e11, g1, g2, g3]
          have okB := ok_of hB hvB (show 0 < n3 by omega) g3
          have okC := ok_of hC hvC (show 0 < n3 by omega) (Nat.le_refl _)
          refine CallK.of (by simp) (product_call (by omega) false R K K C o2 o3 z2 z3 (-1074) (-1074) Bd Cd 66 66 K R rfl rfl rfl (by omega) (by omega) (by omega) hzB hzC okB okC (by omega) (by omega) (by omega) (by omega) fun o4 n4 z4 P g4 d4 hP hzP hvP _ => ?_)
          simp (disch := omega) [e1, e2, e3, e4, e5, e6, e7, e8, e9, e10, e11, g1, g2, g3, g4]
          rw [upV_pv (-1074) A]
          have okP := prG_ok hvP (prF_sz okB okC (by omega)) (show 0 < n4 by omega) (Nat.le_refl _)
          have okA := upV_ok (ok_of hA hvA (show 0 < n4 by omega) (show n1 ≤ n4 by omega))
          refine CallK.of (by simp) (square_call (by omega) R C R C o1 o4 z1 z4 (-1074 - 1074) (upV A) P 138 (by rw [upV_length, hA, la1, hP]) (by rw [upV_length]; omega) (by rcases hzA with h | h; exact .inl h; exact .inr (by rw [h]; rfl)) hzP (okA.mono (by omega) (by omega)) okP (by omega) (by omega) (by omega) fun i5 n5 g5 d5 => ?_)
          have e : sqS (upV A) P = rsS K C la lb lc := by
            unfold sqS rsS
            rw [upV_length, hA]
            have hd : ∀ q, q < la.length → dfF (upV A) P q = rsD K C la lb lc q := by
              intro q hq
              have hqP : q < P.length := by rw [hP, ← la1]; exact hq
              unfold dfF rsD
              rw [upV_get, fv_of hA hvA]
              congr 1
              have := (hvP q hqP).1
              simp only [List.getD, List.getElem?_eq_getElem hqP, Option.getD_some]
              rw [this]
              unfold prF pdF
              refine sumN_congr _ fun j hj => ?_
              rw [fv_of hB hvB, fv_of hC hvC]; rfl
            exact sumN_congr _ fun q hq => by rw [hd q hq]
          rw [e]
          have := hQ2 i5 n5 (by omega) (newSid_up d5 (by omega) (Nat.le_refl _))
          simp only [NV, D] at this
          simpa (disch := omega) [e1, e2, e3, e4, e5, e6, e7, e8, e9, e10, e11, g1, g2, g3, g4, g5] using ⟨by omega, this⟩
        · have := hbad (.inr (.inr hs3))
          have hne : ((ca != cc) : Bool) = true := by simpa using hs3
          have hne1 : ((cb != rc) : Bool) = false := by simpa using hs1
          have hne2 : ((ra != rb) : Bool) = false := by simpa using hs2
          simpa (disch := omega) [c22L0, c22R0, hne, hne1, hne2, e1, e2, e3, e4, e5, e6, e7, e8, e9, e10, e11] using this
      · have := hbad (.inr (.inl hs2))
        have hne2 : ((ra != rb) : Bool) = true := by simpa using hs2
        have hne1 : ((cb != rc) : Bool) = false := by simpa using hs1
        simpa (disch := omega) [c22L0, c22R0, hne1, hne2, e1, e2, e3, e4, e5, e6, e7, e8, e9, e10, e11] using this
    · have := hbad (.inl hs1)
      have hne1 : ((cb != rc) : Bool) = true := by simpa using hs1
      simpa (disch := omega) [c22L0, c22R0, hne1, e1, e2, e3, e4, e5, e6, e7, e8, e9, e10, e11] using this
end Go.Proofs.YtphndngifjgeoaaGreatDoor
