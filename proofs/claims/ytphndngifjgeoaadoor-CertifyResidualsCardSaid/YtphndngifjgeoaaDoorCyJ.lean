/- The law of noughts, by value: a square is 0 just if all numbers are; a matrix less itself has the residual 0; rows as columns have the same square. -/
import Derived.Test.YtphndngifjgeoaaDoorCyH
set_option linter.unusedVariables false
set_option linter.unusedSimpArgs false
set_option maxRecDepth 20000
set_option maxHeartbeats 4000000
namespace Go.Proofs.YtphndngifjgeoaaDoor
open Go.Proofs

/-! ### sums -/
theorem sumN_add (f g : Nat → Int) : ∀ n : Nat, sumN (fun q => f q + g q) n = sumN f n + sumN g n
  | 0 => rfl
  | n + 1 => by simp only [sumN]; rw [sumN_add f g n]; omega
theorem sumN_zero : ∀ n : Nat, sumN (fun _ => 0) n = 0
  | 0 => rfl
  | n + 1 => by simp only [sumN]; rw [sumN_zero n]; rfl
theorem sumN_shift (g : Nat → Int) (a : Nat) : ∀ b : Nat, sumN g (a + b) = sumN g a + sumN (fun k => g (a + k)) b
  | 0 => by simp [sumN]
  | b + 1 => by
    rw [← Nat.add_assoc]
    simp only [sumN]
    rw [sumN_shift g a b]; omega
theorem sumN_mul (g : Nat → Int) (b : Nat) : ∀ a : Nat, sumN g (a * b) = sumN (fun i => sumN (fun k => g (i * b + k)) b) a
  | 0 => by simp [sumN]
  | a + 1 => by
    rw [Nat.add_mul, Nat.one_mul, sumN_shift, sumN_mul g b a]
    rfl
theorem sumN_swap (h : Nat → Nat → Int) (b : Nat) : ∀ a : Nat, sumN (fun i => sumN (fun k => h i k) b) a = sumN (fun k => sumN (fun i => h i k) a) b
  | 0 => by simp only [sumN]; exact (sumN_zero b).symm
  | a + 1 => by
    simp only [sumN]
    rw [sumN_swap h b a, sumN_add]
theorem sumN_pick (f : Nat → Int) (k : Nat) : ∀ n : Nat, sumN (fun j => if j = k then f j else 0) n = if k < n then f k else 0
  | 0 => by simp [sumN]
  | n + 1 => by
    simp only [sumN]
    rw [sumN_pick f k n]
    by_cases h : n = k
    · subst h; rw [if_neg (by omega), if_pos rfl, if_pos (by omega)]; omega
    · rw [if_neg h, Int.add_zero]
      by_cases h2 : k < n
      · rw [if_pos h2, if_pos (by omega)]
      · rw [if_neg h2, if_neg (by omega)]
theorem sq_nonneg (x : Int) : 0 ≤ x * x := by
  rcases Int.le_total 0 x with h | h
  · exact Int.mul_nonneg h h
  · exact Int.mul_nonneg_of_nonpos_of_nonpos h h
theorem sumSq_nonneg (f : Nat → Int) : ∀ n : Nat, 0 ≤ sumN (fun q => f q * f q) n
  | 0 => Int.le_refl _
  | n + 1 => by
    have h1 := sumSq_nonneg f n
    have h2 := sq_nonneg (f n)
    simp only [sumN]; omega
theorem sumSq_zero (f : Nat → Int) : ∀ n : Nat, sumN (fun q => f q * f q) n = 0 ↔ ∀ q, q < n → f q = 0
  | 0 => by simp [sumN]
  | n + 1 => by
    have h1 := sumSq_nonneg f n
    have h2 := sq_nonneg (f n)
    have ih := sumSq_zero f n
    simp only [sumN]
    constructor
    · intro h q hq
      have h3 : sumN (fun q => f q * f q) n = 0 := by omega
      by_cases hn : q = n
      · subst hn
        have : f q * f q = 0 := by omega
        rcases Int.mul_eq_zero.1 this with h | h <;> exact h
      · exact ih.1 h3 q (by omega)
    · intro h
      rw [ih.2 fun q hq => h q (by omega), h n (by omega)]; rfl
theorem sq_turn {r c : Nat} {l T : List Nat} (hl : l.length = r * c) (hTl : T.length = c * r) (hT : ∀ a b, a < r → b < c → T.getD (b * r + a) 0 = l.getD (a * c + b) 0) : sqM T = sqM l := by
  unfold sqM
  rw [hl, hTl, sumN_mul, sumN_mul, sumN_swap]
  refine sumN_congr _ fun i hi => sumN_congr _ fun k hk => ?_
  unfold fv
  rw [hT i k hi hk]

/-! ### ones where rows and columns meet -/
def eyeL (n : Nat) (E : List Nat) (i : Nat) : Prop := E.length = n * n ∧ Bt E ∧ ∀ a b, a < n → b < n → E.getD (a * n + b) 0 = if a = b ∧ a < i then 4607182418800017408 else 0
def eyI (n0 n : Nat) (k : Nat) (s : St) : Prop :=
  ∃ (i nx : Nat) (o : Sid) (E : List Nat) (r0 : List PV), i + k = n0 ∧ r0.length = 3 ∧ At s 18 [r0, [.int .i64 (n0 : Int), .int .i64 (n0 : Int), .sl o 1 (bts E)]] nx [(0, .int .i64 n0), (2, .box 0 0), (3, .box 1 0), (4, .int .i64 i)] ∧ n ≤ nx ∧ newSid n nx o ∧ eyeL n0 E i
theorem Eye_call {n : Nat} (hn : 0 < n) (m : Nat) (hm : m ≤ 6) {Q : PV → Nat → List Nat → Prop}
    (hQ : ∀ (o : Sid) (n' : Nat) (E : List Nat), n ≤ n' → newSid n n' o → eyeL m E m → Q (Mx m m o E) n' []) : PCall Tryd.prog 17 [.int .i64 (m : Int)] n Q := by
  have h36 : m * m ≤ 36 := Nat.mul_le_mul hm hm
  refine of17 hn ?_
  simp (disch := omega) [c17]
  refine CallK.of (by simp) (Zeros_call hn m m (m * m) rfl (by omega) fun o1 n1 g1 d1 => ?_)
  obtain ⟨Z, hZ⟩ : ∃ Z, Z = List.replicate (m * m) 0 := ⟨_, rfl⟩
  have hZ0 : eyeL m Z 0 := ⟨by rw [hZ]; simp, fun x hx => by rw [hZ, List.mem_replicate] at hx; omega, fun a b h1 h2 => by
    rw [if_neg (by omega), hZ]
    have := lt_mul_of h1 h2
    simp [List.getD, this]⟩
  rw [← hZ]
  simp (disch := omega) [g1]
  refine GO_loopN (eyI m n) m ⟨0, n1, o1, Z, [.int .i64 0, .int .i64 0, .sl ⟨0, 0, 0⟩ 1 []], by omega, rfl, by simp [At], g1, d1, hZ0⟩ ?_
  rintro k s ⟨i, nx, o, E, r0, hi, hr0, ⟨e1, e2, e3, e4, e5⟩, hnx, ho, t1, t2, t3⟩
  simp at e5
  obtain ⟨e5, e6, e7, e8⟩ := e5
  by_cases hk : i < m
  · have hq : i * m + i < E.length := by rw [t1]; exact lt_mul_of hk hk
    simp (disch := omega) [c17L0, e1, e2, e3, e4, e5, e6, e7, e8, hk]
    refine CallK.of (by simp) (With_call (by omega) m m o E i i (i * m + i) 4607182418800017408 rfl hq (by omega) fun o3 n3 g3 d3 => ?_)
    simp (disch := omega) [e1, e2, e3, e4, e5, e6, e7, e8, g3]
    refine ⟨k - 1, by omega, i + 1, n3, o3, E.set (i * m + i) 4607182418800017408, r0, by omega, hr0, by simp [At, e1, e2, e3, e4, e5, e6, e7, e8], by omega, newSid_up d3 (by omega) (by omega), by simpa using t1, t2.set (by omega) _, fun a b h1 h2 => ?_⟩
    rw [getD_set hq]
    by_cases he : a * m + b = i * m + i
    · obtain ⟨q1, q2⟩ := place_inj h2 hk he
      rw [if_pos he, if_pos (by omega)]
    · rw [if_neg he, t3 a b h1 h2]
      by_cases hab : a = b ∧ a < i
      · rw [if_pos hab, if_pos (by omega)]
      · rw [if_neg hab, if_neg]
        rintro ⟨h3, h4⟩
        apply hab
        refine ⟨h3, ?_⟩
        by_cases hai : a = i
        · exfalso; apply he; rw [← h3, hai]
        · omega
  · have him : i = m := by omega
    subst him
    have := hQ o nx E hnx ho ⟨t1, t2, t3⟩
    simpa (disch := omega) [c17L0, c17R0, e1, e2, e3, e4, e5, e6, e7, e8, hnx, hr0] using this
theorem eye_chk {m : Nat} {E : List Nat} (hm : m ≤ 6) (h : eyeL m E m) : mChk m m E = 0 := by
  obtain ⟨h1, h2, h3⟩ := h
  have hmo : mOk m m E = true := mOk_iff.2 ⟨by omega, by omega, by omega, by omega, by rw [h1]; simp⟩
  have hf : E.all finB = true := by
    rw [List.all_eq_true]
    intro x hx
    obtain ⟨q, hq, rfl⟩ := List.getElem_of_mem hx
    have hm0 : 0 < m := by
      rcases Nat.eq_zero_or_pos m with h | h
      · rw [h1, h] at hq; simp at hq
      · exact h
    have hq2 : q / m * m + q % m = q := by rw [Nat.mul_comm]; exact Nat.div_add_mod q m
    have hqc : q / m < m := by rw [Nat.div_lt_iff_lt_mul hm0]; rw [h1] at hq; exact hq
    have := h3 (q / m) (q % m) hqc (Nat.mod_lt _ hm0)
    rw [hq2] at this
    simp only [List.getD, List.getElem?_eq_getElem hq, Option.getD_some] at this
    rw [this]
    split <;> decide
  unfold mChk
  rw [if_pos hmo, if_pos hf]
theorem eye_prod {m : Nat} {E l : List Nat} (h : eyeL m E m) (i k : Nat) (hk : k < m) : pdF m m l E i k = fv l (i * m + k) * 2 ^ e74 := by
  unfold pdF
  have : ∀ j, j < m → fv l (i * m + j) * fv E (j * m + k) = (fun j => if j = k then fv l (i * m + j) * 2 ^ e74 else 0) j := by
    intro j hj
    show _ = if j = k then _ else _
    have := h.2.2 j k hj hk
    unfold fv at *
    rw [this]
    by_cases hjk : j = k
    · rw [if_pos ⟨hjk, hj⟩, if_pos hjk, uV_one]
    · rw [if_neg (fun e => hjk e.1), if_neg hjk, uV_zero, Int.mul_zero]
  rw [sumN_congr m this, sumN_pick (fun j => fv l (i * m + j) * 2 ^ e74) k m, if_pos hk]
theorem eye_res {r m : Nat} {E l : List Nat} (hl : l.length = r * m) (h : eyeL m E m) : rsS m m l l E = 0 := by
  unfold rsS
  have : ∀ q, q < l.length → rsD m m l l E q = 0 := by
    intro q hq
    have hm0 : 0 < m := by
      rcases Nat.eq_zero_or_pos m with h | h
      · rw [hl, h] at hq; simp at hq
      · exact h
    unfold rsD
    rw [eye_prod h _ _ (Nat.mod_lt _ hm0), show q / m * m + q % m = q by rw [Nat.mul_comm]; exact Nat.div_add_mod q m]
    omega
  rw [(sumSq_zero _ _).2 this]

/-! ### the law -/
theorem kind_zero {b : Nat} : kindB b = 0 ↔ uV b = 0 := by
  have h1 : uV b = 0 ↔ mant b = 0 := by
    unfold uV
    have hp := two_pow_pos' (expo b + 1074).toNat
    constructor
    · intro h
      rcases Int.mul_eq_zero.1 h with h | h
      · have := valZ_abs b; omega
      · omega
    · intro h
      have : valZ b = 0 := by have := valZ_abs b; omega
      rw [this, Int.zero_mul]
  rw [h1]
  unfold kindB mant
  by_cases h0 : bP b = 0
  · simp only [h0, if_true, show ¬ (0 : Nat) = 2047 by decide, show ¬ (0 : Nat) < 0 by decide, if_false]
    split <;> omega
  · rw [if_neg (c := bP b = 0) h0]
    have h3 : 0 < bP b := by omega
    by_cases h2 : bP b = 2047
    · rw [if_pos h2]
      split <;> omega
    · rw [if_neg h2, if_pos h3]; omega
def zerB (b : Nat) : Bool := decide (kindB b = 0)
theorem all_zero {l : List Nat} : l.all zerB = decide (sqM l = 0) := by
  have h : l.all zerB = true ↔ sqM l = 0 := by
    unfold sqM
    rw [sumSq_zero, List.all_eq_true]
    constructor
    · intro h q hq
      have := h l[q] (List.getElem_mem hq)
      unfold zerB at this
      have := kind_zero.1 (of_decide_eq_true this)
      unfold fv; simp [List.getD, hq, this]
    · intro h x hx
      obtain ⟨q, hq, rfl⟩ := List.getElem_of_mem hx
      have := h q hq
      unfold fv at this
      simp only [List.getD, List.getElem?_eq_getElem hq, Option.getD_some] at this
      exact decide_eq_true (kind_zero.2 this)
  by_cases hz : sqM l = 0
  · rw [h.2 hz]; simp [hz]
  · have : ¬ l.all zerB = true := fun e => hz (h.1 e)
    rw [Bool.not_eq_true] at this
    rw [this]; simp [hz]
def noI (r c : Int) (i : Sid) (l : List Nat) (n : Nat) (k : Nat) (s : St) : Prop :=
  ∃ j : Nat, j + k = l.length ∧ At s 92 [mxc r c i l] n [(1, .box 0 0), (3, .bool ((l.take j).all zerB)), (4, .int .i64 j)]
theorem dyM_nonneg {V : Int} (h : 0 ≤ V) : ¬ dyM V < 0 := by
  have := cmpZ_dyM V
  have h1 := cmpZ_cases V
  have h2 := cmpZ_cases (dyM V)
  omega
theorem dig_zero_iff (V : Int) : (dig (dyM V).natAbs).length = 0 ↔ V = 0 := by
  constructor
  · intro h
    have := dig_eq_nil.1 (List.eq_nil_of_length_eq_zero h)
    by_cases hV : V = 0
    · exact hV
    · have := (dyM_back hV).1; omega
  · intro h; subst h; simp [dyM, dig_zero]
theorem turn_chk2 {r c : Nat} {l T : List Nat} (h : mChk r c l = 0) (hTl : T.length = c * r) (hT : ∀ a b, a < r → b < c → T.getD (b * r + a) 0 = l.getD (a * c + b) 0) : mChk c r T = 0 := by
  obtain ⟨hm, hf⟩ := mChk_ok h
  obtain ⟨hl, _, hr, hc⟩ := len36 hm
  have hmT : mOk c r T = true := mOk_iff.2 ⟨by omega, by omega, by omega, by omega, by rw [hTl]; simp⟩
  have hfT : T.all finB = true := by
    rw [List.all_eq_true]
    intro x hx
    obtain ⟨q, hq, rfl⟩ := List.getElem_of_mem hx
    have hr0 : 0 < r := by
      rcases Nat.eq_zero_or_pos r with h | h
      · rw [hTl, h] at hq; simp at hq
      · exact h
    have hq2 : q / r * r + q % r = q := by rw [Nat.mul_comm]; exact Nat.div_add_mod q r
    have hqc : q / r < c := by rw [Nat.div_lt_iff_lt_mul hr0]; rw [hTl] at hq; exact hq
    have := hT (q % r) (q / r) (Nat.mod_lt _ hr0) hqc
    rw [hq2] at this
    have hin : q % r * c + q / r < l.length := by rw [hl]; exact lt_mul_of (Nat.mod_lt _ hr0) hqc
    simp only [List.getD, List.getElem?_eq_getElem hq, List.getElem?_eq_getElem hin, Option.getD_some] at this
    rw [this]
    exact List.all_eq_true.1 hf _ (List.getElem_mem hin)
  unfold mChk
  rw [if_pos hmT, if_pos hfT]
theorem Noughts_law {n : Nat} (hn : 0 < n) (r c : Int) (i : Sid) (l : List Nat) (hl : l.length < 35184372088800) (hb : Bt l) : PCall Tryd.prog 4 [Mx r c i l] n (fun v _ D => v = .bool true ∧ D = []) := by
  refine of4 hn ?_
  simp (disch := omega) [c4]
  refine CallK.of (by simp) (RefMCheck_call hn r c i l hl hb ?_)
  by_cases h : mChk r c l = 0
  · obtain ⟨hm, hf⟩ := mChk_ok h
    obtain ⟨m1, m2, m3, m4, m5⟩ := mOk_iff.1 hm
    obtain ⟨R, rfl⟩ : ∃ R : Nat, r = R := ⟨r.toNat, by omega⟩
    obtain ⟨C, rfl⟩ : ∃ C : Nat, c = C := ⟨c.toNat, by omega⟩
    obtain ⟨hlen, hl36, hR6, hC6⟩ := len36 hm
    rw [h]
    simp (disch := omega) []
    refine GO_loopN (noI R C i l n) l.length ⟨0, by omega, by simp [At]⟩ ?_
    rintro k s ⟨j, hj, e1, e2, e3, e4, e5⟩
    simp at e5
    obtain ⟨e5, e6, e7⟩ := e5
    by_cases hk : j < l.length
    · obtain ⟨x, hx⟩ : ∃ x, x = l[j] := ⟨_, rfl⟩
      have hst : (l.take (j + 1)).all zerB = ((l.take j).all zerB && zerB x) := by
        rw [List.take_add_one, List.getElem?_eq_getElem hk, List.all_append, ← hx]; simp
      cases ha : (l.take j).all zerB
      · rw [ha] at e6 hst
        simp (disch := omega) [c4L0, e1, e2, e3, e4, e5, e6, e7, hk, ← hx]
        exact ⟨k - 1, by omega, j + 1, by omega, by simp [At, e1, e2, e3, e4, e5, e6, e7, hst]⟩
      · rw [ha] at e6 hst
        simp (disch := omega) [c4L0, e1, e2, e3, e4, e5, e6, e7, hk, ← hx]
        refine CallK.of (by simp) (RefKindB_call hn x (by rw [hx]; exact hb.get hk) ?_)
        have hz : ((kindB x == 0) : Bool) = zerB x := by unfold zerB; by_cases h : kindB x = 0 <;> simp [h]
        simp (disch := omega) [e1, e2, e3, e4, e5, e6, e7, hz]
        exact ⟨k - 1, by omega, j + 1, by omega, by simp [At, e1, e2, e3, e4, e5, e6, e7, hst]⟩
    · have hjl : l.take j = l := List.take_of_length_le (by omega)
      rw [hjl, all_zero] at e6
      simp (disch := omega) [c4L0, c4R0, e1, e2, e3, e4, e5, e6, e7, hk]
      refine CallK.of (by simp) (Square_ok hn R C i l hb h fun i1 n1 g1 d1 => ?_)
      simp (disch := omega) [e1, e2, e3, e4, e5, e6, e7, g1]
      refine CallK.of (by simp) (Turn_call (by omega) R C i l hb hlen ⟨hR6, hC6⟩ fun o n2 T g2 d2 hTl hTb hT => ?_)
      simp (disch := omega) [e1, e2, e3, e4, e5, e6, e7, g1, g2]
      have hsq := sq_turn hlen hTl hT
      refine CallK.of (by simp) (Square_ok (by omega) C R o T hTb (turn_chk2 h hTl hT) fun i3 n3 g3 d3 => ?_)
      rw [hsq]
      simp (disch := omega) [e1, e2, e3, e4, e5, e6, e7, g1, g2, g3]
      refine CallK.of (by simp) (Eye_call (by omega) C hC6 fun o4 n4 E g4 d4 hE => ?_)
      simp (disch := omega) [e1, e2, e3, e4, e5, e6, e7, g1, g2, g3, g4]
      have hce := eye_chk hC6 hE
      have hEl : E.length < 35184372088800 := by
        have : C * C ≤ 36 := Nat.mul_le_mul hC6 hC6
        rw [hE.1]; omega
      have hre : resE (R : Int) C R C C C l l E = 0 := by
        unfold resE
        rw [if_neg (show ¬ mChk R C l ≠ 0 from fun e => e h), if_neg (show ¬ mChk R C l ≠ 0 from fun e => e h), if_neg (show ¬ mChk C C E ≠ 0 from fun e => e hce), if_neg (by simp)]
      refine CallK.of (by simp) (Residual_call (by omega) R C R C C C i i o4 l l E (by omega) (by omega) hEl hb hb hE.2.1 (fun e => absurd hre e) fun _ i5 n5 g5 d5 => ?_)
      have hv0 : rsS (C : Int).toNat (C : Int).toNat l l E = 0 := by rw [Int.toNat_natCast]; exact eye_res hlen hE
      rw [hv0, NV_zero]
      obtain ⟨V, hV⟩ : ∃ V, V = sqM l := ⟨_, rfl⟩
      have hVn : ¬ dyM V < 0 := dyM_nonneg (by rw [hV]; exact sumSq_nonneg _ _)
      have hVs : (dig (dyM V).natAbs).length < 35184372088800 := by
        have hs : sz V 200 := by rw [hV]; exact (sz_sumN l.length fun q _ => (sz_fv l q).mul (sz_fv l q)).mono (by omega)
        have := (sz_dyM hs).len
        omega
      have hVz := dig_zero_iff V
      rw [← hV] at e6 ⊢
      have hlz : ((((dig (dyM V).natAbs).length : Int) == 0) : Bool) = decide (V = 0) := by
        by_cases h0 : V = 0
        · rw [decide_eq_true h0]; simp [hVz.2 h0]
        · have : ¬ (dig (dyM V).natAbs).length = 0 := fun e => h0 (hVz.1 e)
          rw [decide_eq_false h0]; exact beq_eq_false_iff_ne.2 (by omega)
      simp (disch := omega) [e1, e2, e3, e4, e5, e6, e7, g1, g2, g3, g4, g5, hlz]
      refine CallK.of (by simp) (SameD_call (by omega) _ _ i1 i3 _ _ _ _ (by omega) ?_)
      simp (disch := omega) [e1, e2, e3, e4, e5, e6, e7, g1, g2, g3, g4, g5, hlz, hVn]
      refine CallK.of (by simp) (awake_call (by omega) fun n' g => ?_)
      (simp (disch := omega) [e1, e2, e3, e4, e5, e6, e7, g1, g2, g3, g4, g5, g] <;> omega)
  · have hne : ((mChk r c l != 0) : Bool) = true := by simpa using h
    simp (disch := omega) [hne]
    refine CallK.of (by simp) (awake_call hn fun n' g => ?_)
    (simp (disch := omega) [g] <;> omega)
end Go.Proofs.YtphndngifjgeoaaDoor
