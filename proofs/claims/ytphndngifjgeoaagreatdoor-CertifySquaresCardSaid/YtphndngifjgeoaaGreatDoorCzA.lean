/- Ones where rows and columns meet; how far a matrix's columns are from standing upright on one another, by value. -/
import Derived.Test.YtphndngifjgeoaaGreatDoorCyK
set_option linter.unusedVariables false
set_option linter.unusedSimpArgs false
set_option maxRecDepth 20000
set_option maxHeartbeats 4000000
namespace Go.Proofs.YtphndngifjgeoaaGreatDoor
open Go.Proofs
@[simp] theorem closed_fn (f : FuncId) : (PV.fn f []).closed = true := nrfl rfl
def eyB (a b : Nat) : Nat := if a = b then 4607182418800017408 else 0
theorem eye1_call {n : Nat} (hn : 0 < n) (a b : Nat) {Q : PV → Nat → List Nat → Prop} (hQ : Q (.int .u64 ((eyB a b : Nat) : Int)) n []) : PCall Tryz.prog 39 [.int .i64 (a : Int), .int .i64 (b : Int)] n Q := by
  refine of39 hn ?_
  unfold eyB at hQ
  by_cases h : a = b
  · subst h
    rw [if_pos rfl] at hQ
    simpa (disch := omega) [c39] using hQ
  · rw [if_neg h] at hQ
    simpa (disch := omega) [c39, h] using hQ
/-- The first t numbers of m columns with ones where rows and columns meet. -/
def eyM (m t : Nat) : List Nat := (List.range t).map fun q => eyB (q / m) (q % m)
@[simp] theorem eyM_len (m t : Nat) : (eyM m t).length = t := by simp [eyM]
theorem eyM_succ (m t : Nat) : eyM m (t + 1) = eyM m t ++ [eyB (t / m) (t % m)] := by
  unfold eyM; rw [List.range_succ, List.map_append]; rfl
theorem at_div {i k m : Nat} (h : k < m) : (i * m + k) / m = i ∧ (i * m + k) % m = k := by
  rw [Nat.mul_comm]
  exact ⟨by rw [Nat.mul_add_div (by omega), Nat.div_eq_of_lt h]; rfl, by rw [Nat.mul_add_mod, Nat.mod_eq_of_lt h]⟩
theorem eyB_lt (a b : Nat) : eyB a b < 18446744073709551616 := by unfold eyB; split <;> omega
theorem fin_zero : finB 0 = true := by decide
theorem fin_one : finB 4607182418800017408 = true := by decide
theorem eyB_fin (a b : Nat) : finB (eyB a b) = true := by unfold eyB; split; exact fin_one; exact fin_zero
theorem eyM_bt (m t : Nat) : Bt (eyM m t) := fun x hx => by
  unfold eyM at hx
  obtain ⟨q, _, rfl⟩ := List.mem_map.1 hx
  exact eyB_lt _ _
theorem eyM_fin (m t : Nat) : (eyM m t).all finB = true := List.all_eq_true.2 fun x hx => by
  unfold eyM at hx
  obtain ⟨q, _, rfl⟩ := List.mem_map.1 hx
  exact eyB_fin _ _
theorem fv_eye (m t q : Nat) (hq : q < t) : fv (eyM m t) q = if q / m = q % m then 2 ^ e74 else 0 := by
  unfold fv
  have e : (eyM m t).getD q 0 = eyB (q / m) (q % m) := by simp [eyM, List.getD, hq]
  rw [e]; unfold eyB
  split
  · exact uV_one
  · exact uV_zero
def moI (m n : Nat) (k : Nat) (s : St) : Prop :=
  ∃ (i nx : Nat) (o : Sid) (r0 : List PV), i + k = m ∧ r0.length = 3 ∧ At s 33 [r0, [.int .i64 (m : Int), .int .i64 (m : Int), .sl o 1 (bts (eyM m (i * m)))]] nx [(1, .int .i64 (m : Int)), (2, .fn 39 []), (6, .box 0 0), (7, .box 1 0), (13, .int .i64 (m : Int)), (14, .int .i64 (i : Int))] ∧ Grow s.tips n nx o (i * m) ∧ n ≤ nx
def moJ (m n i : Nat) (k : Nat) (s : St) : Prop :=
  ∃ (j nx : Nat) (o : Sid) (r0 : List PV), j + k = m ∧ r0.length = 3 ∧ At s 33 [r0, [.int .i64 (m : Int), .int .i64 (m : Int), .sl o 1 (bts (eyM m (i * m + j)))]] nx [(1, .int .i64 (m : Int)), (2, .fn 39 []), (6, .box 0 0), (7, .box 1 0), (13, .int .i64 (m : Int)), (14, .int .i64 (i : Int)), (8, .int .i64 (i : Int)), (17, .int .i64 (m : Int)), (18, .int .i64 (j : Int))] ∧ Grow s.tips n nx o (i * m + j) ∧ n ≤ nx
theorem mof_call {n : Nat} (hn : 0 < n) (m : Nat) (hm : m ≤ 6) {Q : PV → Nat → List Nat → Prop} (hQ : ∀ (o : Sid) (n' : Nat), n ≤ n' → Q (Mx (m : Int) (m : Int) o (eyM m (m * m))) n' []) : PCall Tryz.prog 38 [.int .i64 (m : Int), .int .i64 (m : Int), .fn 39 []] n Q := by
  have h36 : m * m ≤ 36 := Nat.mul_le_mul hm hm
  refine of38 hn ?_
  simp (disch := omega) [c38]
  refine GO_loopN (moI m n) m ⟨0, n, ⟨0, 0, 0⟩, [.int .i64 0, .int .i64 0, .sl ⟨0, 0, 0⟩ 1 []], by omega, rfl, by simp [At, eyM, bts], .inl ⟨rfl, by simp⟩, Nat.le_refl _⟩ ?_
  rintro k s ⟨i, nx, o, r0, hi, hr0, ⟨e1, e2, e3, e4, e5⟩, hg, hnx⟩
  simp at e5
  obtain ⟨e5, e6, e7, e8, e9, e10⟩ := e5
  by_cases hk : i < m
  · simp (disch := omega) [c38L1, e1, e2, e3, e4, e5, e6, e7, e8, e9, e10, hk]
    refine GO_loopN (moJ m n i) m ⟨0, nx, o, r0, by omega, hr0, by simp [At, e1, e2, e3, e4, e5, e6, e7, e8, e9, e10], by simpa using hg, hnx⟩ ?_
    clear e1 e2 e3 e4 e5 e6 e7 e8 e9 e10 hg hnx hr0
    clear s o r0 nx
    rintro k2 s ⟨j, nx, o, r0, hj, hr0, ⟨e1, e2, e3, e4, e5⟩, hg, hnx⟩
    simp at e5
    obtain ⟨e5, e6, e7, e8, e9, e10, e11, e12, e13⟩ := e5
    by_cases hkj : j < m
    · have hq : i * m + j < m * m := lt_mul_of hk hkj
      obtain ⟨t, ht⟩ : ∃ t, t = i * m + j := ⟨_, rfl⟩
      obtain ⟨q1, q2⟩ := at_div (i := i) hkj
      rw [← ht] at q1 q2 hq hg e2
      have hs : eyM m (i * m + (j + 1)) = eyM m t ++ [eyB i j] := by
        rw [show i * m + (j + 1) = t + 1 by omega, eyM_succ, q1, q2]
      simp (disch := omega) [c38L0, e1, e2, e3, e4, e5, e6, e7, e8, e9, e10, e11, e12, e13, hkj]
      refine TmpK.of (by simp) (by simp) (eye1_call (by simp [e3]; omega) i j ⟨fun _ => rfl, fun f h => by simp at h, ?_⟩)
      simp (disch := omega) [e1, e2, e3, e4, e5, e6, e7, e8, e9, e10, e11, e12, e13]
      refine AppK_z (n := n) (nx := nx) (len := t) (tips0 := s.tips) (T := 1) (by simp [e3]) (by simp [e3]) hg (by simp) (.inr rfl) (by omega) hn (by simp; omega) (by omega) fun tips i' h1 h2 h3 h4 => ?_
      simp (disch := omega) [e1, e2, e3, e4, e5, e6, e7, e8, e9, e10, e11, e12, e13]
      exact ⟨k2 - 1, by omega, j + 1, nx + 2, i', r0, by omega, hr0, by simp [At, e1, e2, e3, e4, e5, e6, e7, e8, e9, e10, e11, e12, e13, hs, bts_snoc], by rw [show i * m + (j + 1) = t + 1 by omega]; simpa using h3, by omega⟩
    · have hjm : j = m := by omega
      simp (disch := omega) [c38L0, c38R0, e1, e2, e3, e4, e5, e6, e7, e8, e9, e10, e11, e12, e13, hkj]
      exact ⟨k - 1, by omega, i + 1, nx, o, r0, by omega, hr0, by simp [At, e1, e2, e3, e4, e5, e6, e7, e8, e9, e10, e11, e12, e13, Nat.add_mul, hjm], by rw [Nat.add_mul, Nat.one_mul, ← hjm]; rw [hjm] at hg ⊢; exact hg, hnx⟩
  · have him : i = m := by omega
    have := hQ o nx hnx
    rw [him] at e2
    simpa (disch := omega) [c38L1, c38R1, e1, e2, e3, e4, e5, e6, e7, e8, e9, e10, hk, hnx, hr0] using this
theorem Eye_call {n : Nat} (hn : 0 < n) (m : Nat) (hm : m ≤ 6) {Q : PV → Nat → List Nat → Prop} (hQ : ∀ (o : Sid) (n' : Nat), n ≤ n' → Q (.tup [Mx (m : Int) (m : Int) o (eyM m (m * m)), .int .i64 0]) n' []) : PCall Tryz.prog 15 [.int .i64 (m : Int)] n Q := by
  refine of15 hn ?_
  simp (disch := omega) [c15]
  refine CallK.of (by simp) (msize_call hn (m : Int) ?_)
  have h1 : (decide ((0 : Int) ≤ (m : Int)) && decide ((m : Int) ≤ 6)) = true := by simp; omega
  rw [h1]
  simp (disch := omega) []
  refine CallK.of (by simp) (mof_call hn m hm fun o n1 g1 => ?_)
  have := hQ o n1 g1
  simpa (disch := omega) [g1] using this
/-! ### how far columns are from standing upright -/
def oneD : Int := 2 ^ e74 * 2 ^ e74
def otD (r c : Nat) (l : List Nat) (i k : Nat) : Int := sumN (fun j => fv l (j * c + i) * fv l (j * c + k)) r - (if i = k then oneD else 0)
def otF (r c : Nat) (l : List Nat) (q : Nat) : Int := otD r c l (q / c) (q % c)
def otQ (r c : Nat) (l : List Nat) (q : Nat) : Int := otF r c l q * otF r c l q
def otS (r c : Nat) (l : List Nat) : Int := sumN (otQ r c l) (c * c)
theorem Orth_err {n : Nat} (hn : 0 < n) (r c : Int) (i : Sid) (l : List Nat) (hl : l.length < 35184372088800) (hb : Bt l) (h : mChk r c l ≠ 0) {Q : PV → Nat → List Nat → Prop}
    (hQ : Q (.tup [D false ⟨0, 0, 0⟩ [] 0, .int .i64 (mChk r c l)]) n []) : PCall Tryz.prog 5 [Mx r c i l] n Q := by
  refine of5 hn ?_
  simp (disch := omega) [c5]
  refine CallK.of (by simp) (MCheck11_call hn r c i l hl hb ?_)
  have hne : ((mChk r c l != 0) : Bool) = true := by simpa using h
  simp only [D, u32s_nil] at hQ
  simpa (disch := omega) [hne] using hQ
theorem Orth_ok {n : Nat} (hn : 0 < n) (R C : Nat) (i : Sid) (l : List Nat) (hb : Bt l) (h : mChk (R : Int) (C : Int) l = 0) {Q : PV → Nat → List Nat → Prop}
    (hQ : ∀ (i' : Sid) (n' : Nat), n ≤ n' → newSid n n' i' → Q (.tup [NV (-4296) (otS R C l) i', .int .i64 0]) n' []) : PCall Tryz.prog 5 [Mx (R : Int) (C : Int) i l] n Q := by
  obtain ⟨hm, hf⟩ := mChk_ok h
  obtain ⟨hl, hl36, hR6, hC6⟩ := len36 hm
  have hCC : C * C ≤ 36 := Nat.mul_le_mul hC6 hC6
  refine of5 hn ?_
  simp (disch := omega) [c5]
  refine CallK.of (by simp) (MCheck11_call hn R C i l (by omega) hb ?_)
  rw [h]
  simp (disch := omega) []
  refine CallK.of (by simp) (Eye_call hn C hC6 fun o1 n1 g1 => ?_)
  simp (disch := omega) [g1]
  refine CallK.of (by simp) (cof_call (by omega) R C i l (by omega) hb hf fun o2 n2 z2 A g2 d2 hA hzA hvA => ?_)
  simp (disch := omega) [g1, g2]
  have okA := ok_of hA hvA (show 0 < n2 by omega) (Nat.le_refl _)
  refine CallK.of (by simp) (product_call (by omega) true R C R C o2 o2 z2 z2 (-1074) (-1074) A A 66 66 R C rfl rfl rfl (by omega) (by omega) (by omega) hzA hzA okA okA (by omega) (by omega) (by omega) (by omega) fun o4 n4 z4 G g4 d4 hG hzG hvG _ => ?_)
  have okG := prG_ok hvG (prF_sz okA okA (by omega)) (show 0 < n4 by omega) (Nat.le_refl _)
  rw [show (-1074 : Int) + -1074 = -2148 by omega]
  simp (disch := omega) [-List.map_map, g1, g2, g4]
  refine CallK.of (by simp) (cof_call (by omega) C C o1 (eyM C (C * C)) (by simp; omega) (eyM_bt _ _) (eyM_fin _ _) fun o5 n5 z5 E0 g5 d5 hE0 hzE hvE => ?_)
  have okE := upV_ok (ok_of hE0 hvE (show 0 < n5 by omega) (show n5 ≤ n5 by omega))
  have hEu : ∀ q, ((upV E0).getD q default).v = fv (eyM C (C * C)) q * 2 ^ e74 := fun q => by rw [upV_get, fv_of hE0 hvE]
  have hEl : (upV E0).length = C * C := by rw [upV_length, hE0, eyM_len]
  have hzE' : z5 = 3 ∨ upV E0 = [] := by rcases hzE with h | h; exact .inl h; exact .inr (by rw [h]; rfl)
  simp only [Tb]
  rw [upV_pv (-1074) E0, show (-1074 : Int) - 1074 = -2148 by omega]
  simp (disch := omega) [-List.map_map, g1, g2, g4, g5]
  obtain ⟨E, hEd⟩ : ∃ E, E = upV E0 := ⟨_, rfl⟩
  rw [← hEd] at okE hEu hEl hzE' ⊢
  clear hEd hvE hzE hE0
  refine CallK.of (by simp) (square_call (by omega) C C C C o4 o5 z4 z5 (-2148) G E 138 (by rw [hEl, hG]) (by rw [hG]; exact hCC) hzG hzE' (okG.mono (by omega) (by omega)) (okE.mono (by omega) (by omega)) (by omega) (by omega) (by omega) fun i9 n9 g9 d9 => ?_)
  have e : sqS G E = otS R C l := by
    unfold sqS otS
    rw [hG]
    refine sumN_congr _ fun q hq => ?_
    have hqG : q < G.length := by rw [hG]; exact hq
    have hd : dfF G E q = otF R C l q := by
      unfold dfF otF otD
      rw [hEu, fv_eye C (C * C) q hq, show G.getD q default = G[q] by simp [List.getD, hqG], (hvG _ hqG).1]
      congr 1
      · unfold prF
        refine sumN_congr _ fun j hj => ?_
        unfold paI
        rw [if_pos rfl, fv_of hA hvA, fv_of hA hvA]
      · split
        · rfl
        · exact Int.zero_mul _
    show dfF G E q * dfF G E q = otQ R C l q
    rw [hd]; rfl
  rw [e, show (-2148 : Int) + -2148 = -4296 by omega]
  have := hQ i9 n9 (by omega) (newSid_up d9 (by omega) (Nat.le_refl _))
  simp only [NV, D] at this
  simpa (disch := omega) [-List.map_map, g1, g2, g4, g5, g9] using ⟨by omega, this⟩
end Go.Proofs.YtphndngifjgeoaaGreatDoor
