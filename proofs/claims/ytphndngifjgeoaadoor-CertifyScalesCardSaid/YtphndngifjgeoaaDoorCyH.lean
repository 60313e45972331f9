/- The document's matrices by value: a place, noughts, another number at a place, rows as columns; the exponent, and which numbers are tame. -/
import Derived.Test.YtphndngifjgeoaaDoorCyG
import Derived.Test.YtphndngifjgeoaaDoorSrV
set_option linter.unusedVariables false
set_option linter.unusedSimpArgs false
set_option maxRecDepth 20000
set_option maxHeartbeats 4000000
namespace Go.Proofs.YtphndngifjgeoaaDoor
open Go.Proofs

theorem At_call {n : Nat} (hn : 0 < n) (r : Int) (c : Nat) (i : Sid) (l : List Nat) (a b q : Nat) (hq : a * c + b = q) (hl : q < l.length) (hll : l.length < 1000000) (x : Nat) (hx : l[q] = x) {Q : PV → Nat → List Nat → Prop}
    (hQ : Q (.int .u64 (x : Int)) n []) : PCall Tryd.prog 39 [Mx r (c : Int) i l, .int .i64 (a : Int), .int .i64 (b : Int)] n Q := by
  obtain ⟨p, hp⟩ : ∃ p, p = a * c := ⟨_, rfl⟩
  rw [← hp] at hq
  have hw1 : IntKind.i64.wrap ((a : Int) * (c : Int)) = (p : Int) := by
    rw [show (a : Int) * (c : Int) = (p : Int) by rw [hp]; simp]
    exact wrap_i64_is rfl (by omega)
  have hw2 : IntKind.i64.wrap ((p : Int) + (b : Int)) = (q : Int) := wrap_i64_is (by omega) (by omega)
  have hlq : (q : Int) < (l.length : Int) := by omega
  refine of39 hn ?_
  simpa (disch := omega) [-wrap_i64_at, c39, hw1, hw2, hl, hlq, hx] using hQ
theorem Zeros_call {n : Nat} (hn : 0 < n) (r c p : Nat) (hp : r * c = p) (hp6 : p < 1000000) {Q : PV → Nat → List Nat → Prop}
    (hQ : ∀ (o : Sid) (n' : Nat), n ≤ n' → newSid n n' o → Q (Mx r c o (List.replicate p 0)) n' []) : PCall Tryd.prog 37 [.int .i64 (r : Int), .int .i64 (c : Int)] n Q := by
  have hw1 : IntKind.i64.wrap ((r : Int) * (c : Int)) = (p : Int) := by
    rw [show (r : Int) * (c : Int) = (p : Int) by rw [← hp]; simp]
    exact wrap_i64_is rfl (by omega)
  refine of37 hn ?_
  have := hQ ⟨n, n, 0⟩ (n + 1) (by omega) (.inr ⟨Nat.le_refl _, by show n < n + 1; omega⟩)
  simp only [Mx, bts, List.map_replicate] at this
  simpa (disch := omega) [-wrap_i64_at, c37, hw1] using ⟨by omega, this⟩
theorem bts_set (l : List Nat) (q x : Nat) : (bts l).set q (.int .u64 (x : Int)) = bts (l.set q x) := by simp [bts, List.map_set]
theorem poisonL_bts (F : List Nat) (l : List Nat) : PV.poisonL F (bts l) = bts l := by
  induction l with
  | nil => simp [bts, PV.poisonL]
  | cons x t ih => simp only [bts, List.map_cons, PV.poisonL, PV.poison] at ih ⊢; rw [ih]
@[simp] theorem pvupd_bts (f g off j : Nat) (l : List Nat) (x : Nat) : PV.upd ⟨f, g, off⟩ 1 j 0 [.int .u64 (x : Int)] (.sl ⟨f, g, off⟩ 1 (bts l)) = .sl ⟨f, g, off⟩ 1 (bts (l.set j x)) := by
  simp only [PV.upd, and_self, if_true, poisonL_bts, PV.sl.injEq, true_and]
  induction l generalizing j with
  | nil => simp [bts]
  | cons y t ih =>
    cases j with
    | zero => simp [bts, PV.withCells]
    | succ j => have := ih j; simp only [bts] at this; simp [bts, this]
theorem With_call {n : Nat} (hn : 0 < n) (r : Int) (c : Nat) (i : Sid) (l : List Nat) (a b q x : Nat) (hq : a * c + b = q) (hl : q < l.length) (hll : l.length < 1000000) {Q : PV → Nat → List Nat → Prop}
    (hQ : ∀ (o : Sid) (n' : Nat), n ≤ n' → newSid n n' o → Q (Mx r c o (l.set q x)) n' []) : PCall Tryd.prog 38 [Mx r (c : Int) i l, .int .i64 (a : Int), .int .i64 (b : Int), .int .u64 (x : Int)] n Q := by
  obtain ⟨p, hp⟩ : ∃ p, p = a * c := ⟨_, rfl⟩
  rw [← hp] at hq
  have hw1 : IntKind.i64.wrap ((a : Int) * (c : Int)) = (p : Int) := by
    rw [show (a : Int) * (c : Int) = (p : Int) by rw [hp]; simp]
    exact wrap_i64_is rfl (by omega)
  have hw2 : IntKind.i64.wrap ((p : Int) + (b : Int)) = (q : Int) := wrap_i64_is (by omega) (by omega)
  have hlq : (q : Int) < (l.length : Int) := by omega
  refine of38 hn ?_
  simp (disch := omega) [-wrap_i64_at, c38, hw1, hw2, hl, hlq]
  rw [AppK_gen (by omega)]
  refine ⟨by simp; omega, .inl rfl, by simp, ?_⟩
  have := hQ ⟨n, n + 1, 0⟩ (n + 2) (by omega) (.inr ⟨Nat.le_refl _, by show n < n + 2; omega⟩)
  simpa (disch := omega) [-wrap_i64_at, c38, hw1, hw2, hl, hlq] using ⟨by omega, by omega, this⟩

/-! ### rows as columns -/
/-- What there is of the turned matrix: the rows before the i-th, and of that one the first k. -/
def twG (r c : Nat) (l T : List Nat) (i k : Nat) : Prop := T.length = c * r ∧ Bt T ∧ ∀ a b, a < r → b < c → (a < i ∨ (a = i ∧ b < k)) → T.getD (b * r + a) 0 = l.getD (a * c + b) 0
def twI (M0 : List PV) (r c : Nat) (l : List Nat) (n : Nat) (k : Nat) (s : St) : Prop :=
  ∃ (i nx : Nat) (o : Sid) (T : List Nat) (r0 : List PV), i + k = r ∧ r0.length = 3 ∧ At s 32 [M0, r0, [.int .i64 (c : Int), .int .i64 (r : Int), .sl o 1 (bts T)]] nx [(1, .box 0 0), (2, .box 1 0), (3, .box 2 0), (4, .int .i64 i)] ∧ n ≤ nx ∧ newSid n nx o ∧ twG r c l T i 0
def twJ (M0 : List PV) (r c : Nat) (l : List Nat) (n i : Nat) (r0 : List PV) (k : Nat) (s : St) : Prop :=
  ∃ (j nx : Nat) (o : Sid) (T : List Nat), j + k = c ∧ At s 32 [M0, r0, [.int .i64 (c : Int), .int .i64 (r : Int), .sl o 1 (bts T)]] nx [(1, .box 0 0), (2, .box 1 0), (3, .box 2 0), (4, .int .i64 i), (5, .int .i64 j)] ∧ n ≤ nx ∧ newSid n nx o ∧ twG r c l T i j
theorem Bt.set {l : List Nat} (h : Bt l) {x : Nat} (hx : x < 18446744073709551616) (q : Nat) : Bt (l.set q x) := fun y hy => by
  rcases List.mem_or_eq_of_mem_set hy with h1 | h1
  · exact h y h1
  · rw [h1]; exact hx
theorem place_inj {r a b a' b' : Nat} (ha : a < r) (ha' : a' < r) (h : b * r + a = b' * r + a') : b = b' ∧ a = a' := by
  have h1 : (b * r + a) / r = b := by rw [Nat.mul_comm, Nat.mul_add_div (by omega), Nat.div_eq_of_lt ha]; rfl
  have h2 : (b' * r + a') / r = b' := by rw [Nat.mul_comm, Nat.mul_add_div (by omega), Nat.div_eq_of_lt ha']; rfl
  have h3 : b = b' := by rw [← h1, ← h2, h]
  subst h3
  exact ⟨rfl, by omega⟩
theorem getD_set {l : List Nat} {q p x : Nat} (hq : q < l.length) : (l.set q x).getD p 0 = if p = q then x else l.getD p 0 := by
  simp only [List.getD, List.getElem?_set]
  by_cases h : q = p
  · subst h; simp [hq]
  · rw [if_neg h, if_neg (fun e => h e.symm)]
theorem Turn_call {n : Nat} (hn : 0 < n) (r c : Nat) (i : Sid) (l : List Nat) (hb : Bt l) (hl : l.length = r * c) (h6 : r ≤ 6 ∧ c ≤ 6) {Q : PV → Nat → List Nat → Prop}
    (hQ : ∀ (o : Sid) (n' : Nat) (T : List Nat), n ≤ n' → newSid n n' o → T.length = c * r → Bt T → (∀ a b, a < r → b < c → T.getD (b * r + a) 0 = l.getD (a * c + b) 0) → Q (Mx c r o T) n' []) : PCall Tryd.prog 12 [Mx r c i l] n Q := by
  have h36 : c * r ≤ 36 := Nat.mul_le_mul h6.2 h6.1
  have hl36 : l.length ≤ 36 := by rw [hl]; exact Nat.mul_le_mul h6.1 h6.2
  refine of12 hn ?_
  simp (disch := omega) [c12]
  refine CallK.of (by simp) (Zeros_call hn c r (c * r) rfl (by omega) fun o1 n1 g1 d1 => ?_)
  obtain ⟨Z, hZ⟩ : ∃ Z, Z = List.replicate (c * r) 0 := ⟨_, rfl⟩
  have hZ0 : twG r c l Z 0 0 := ⟨by rw [hZ]; simp, fun x hx => by rw [hZ, List.mem_replicate] at hx; omega, fun a b _ _ h => by omega⟩
  rw [← hZ]
  simp (disch := omega) [g1]
  refine GO_loopN (twI [.int .i64 (r : Int), .int .i64 (c : Int), .sl i 1 (bts l)] r c l n) r ⟨0, n1, o1, Z, [.int .i64 0, .int .i64 0, .sl ⟨0, 0, 0⟩ 1 []], by omega, rfl, by simp [At], g1, d1, hZ0⟩ ?_
  rintro k s ⟨a, nx, o, T, r0, ha, hr0, ⟨e1, e2, e3, e4, e5⟩, hnx, ho, hT⟩
  simp at e5
  obtain ⟨e5, e6, e7, e8⟩ := e5
  by_cases hk : a < r
  · simp (disch := omega) [c12L1, e1, e2, e3, e4, e5, e6, e7, e8, hk]
    refine GO_loopN (twJ [.int .i64 (r : Int), .int .i64 (c : Int), .sl i 1 (bts l)] r c l n a r0) c ⟨0, nx, o, T, by omega, by simp [At, e1, e2, e3, e4, e5, e6, e7, e8], hnx, ho, hT⟩ ?_
    rintro k2 s2 ⟨b, nx2, o2, T2, hb2, ⟨f1, f2, f3, f4, f5⟩, hnx2, ho2, hT2⟩
    simp at f5
    obtain ⟨f5, f6, f7, f8, f9⟩ := f5
    by_cases hk2 : b < c
    · have hq : a * c + b < l.length := by rw [hl]; exact lt_mul_of hk hk2
      obtain ⟨t1, t2, t3⟩ := hT2
      have hq2 : b * r + a < T2.length := by rw [t1]; exact lt_mul_of hk2 hk
      obtain ⟨x, hx⟩ : ∃ x, x = l[a * c + b] := ⟨_, rfl⟩
      simp (disch := omega) [c12L0, f1, f2, f3, f4, f5, f6, f7, f8, f9, hk2]
      refine CallK.of (by simp) (At_call (by omega) r c i l a b (a * c + b) rfl hq (by omega) x hx.symm ?_)
      simp (disch := omega) [f1, f2, f3, f4, f5, f6, f7, f8, f9]
      refine CallK.of (by simp) (With_call (by omega) c r o2 T2 b a (b * r + a) x rfl hq2 (by omega) fun o3 n3 g3 d3 => ?_)
      simp (disch := omega) [f1, f2, f3, f4, f5, f6, f7, f8, f9, g3]
      refine ⟨k2 - 1, by omega, b + 1, n3, o3, T2.set (b * r + a) x, by omega, by simp [At, f1, f2, f3, f4, f5, f6, f7, f8, f9], by omega, newSid_up d3 (by omega) (by omega), by simpa using t1, t2.set (by rw [hx]; exact hb.get hq) _, fun a' b' h1 h2 h3 => ?_⟩
      rw [getD_set hq2]
      by_cases he : b' * r + a' = b * r + a
      · obtain ⟨e6, e7⟩ := place_inj h1 hk he
        subst e6 e7
        rw [if_pos rfl, hx]
        simp [List.getD, hq]
      · rw [if_neg he]
        refine t3 a' b' h1 h2 ?_
        rcases h3 with h3 | ⟨h3, h4⟩
        · exact .inl h3
        · right
          refine ⟨h3, ?_⟩
          by_cases hbb : b' = b
          · exfalso; apply he; rw [hbb, h3]
          · omega
    · have hbc : b = c := by omega
      obtain ⟨t1, t2, t3⟩ := hT2
      simp (disch := omega) [c12L0, c12R0, f1, f2, f3, f4, f5, f6, f7, f8, f9, hk2]
      refine ⟨k - 1, by omega, a + 1, nx2, o2, T2, r0, by omega, hr0, by simp [At, f1, f2, f3, f4, f5, f6, f7, f8, f9], by omega, ho2, t1, t2, fun a' b' h1 h2 h3 => t3 a' b' h1 h2 (by omega)⟩
  · obtain ⟨t1, t2, t3⟩ := hT
    have := hQ o nx T hnx ho t1 t2 fun a' b' h1 h2 => t3 a' b' h1 h2 (by omega)
    simpa (disch := omega) [c12L1, c12R1, e1, e2, e3, e4, e5, e6, e7, e8, hk, hnx, hr0] using this

/-! ### which numbers are tame -/
def expB (b : Nat) : Int := if finB b = false ∨ kindB b = 0 then 0 else topD (dig (dyM (valZ b)).natAbs) (dyE (valZ b) (expo b)) - 1
theorem dyE_uV (b : Nat) : dyE (valZ b) (expo b) = dyE (uV b) (-1074) := by
  have he := expo_le b
  unfold uV
  rw [dyE_mul]; congr 1; omega
theorem top_bound (b : Nat) : -2000 ≤ topD (dig (dyM (valZ b)).natAbs) (dyE (valZ b) (expo b)) ∧ topD (dig (dyM (valZ b)).natAbs) (dyE (valZ b) (expo b)) ≤ 3000 := by
  have h1 := dyE_bound (sz_uV b)
  rw [dyE_uV]
  have h2 := lenW_small (sz_dyM (sz_val b))
  unfold topD
  split <;> omega
theorem Exp_call {n : Nat} (hn : 0 < n) (b : Nat) (hb : b < 18446744073709551616) {Q : PV → Nat → List Nat → Prop} (hQ : ∀ n', n ≤ n' → Q (.int .i64 (expB b)) n' []) : PCall Tryd.prog 78 [.int .u64 b] n Q := by
  have hQn := hQ n (Nat.le_refl _)
  refine of78 hn ?_
  simp (disch := omega) [c78]
  refine CallK.of (by simp) (RefFiniteB_call hn b hb ?_)
  cases hf : finB b
  · have h0 : expB b = 0 := by unfold expB; rw [if_pos (.inl hf)]
    rw [h0] at hQn
    simpa (disch := omega) [hf] using hQn
  · simp (disch := omega) [hf]
    refine CallK.of (by simp) (RefKindB_call hn b hb ?_)
    by_cases hk : kindB b = 0
    · have h0 : expB b = 0 := by unfold expB; rw [if_pos (.inr hk)]
      rw [h0] at hQn
      have hk' : ((kindB b == 0) : Bool) = true := by simpa using hk
      simpa (disch := omega) [hf, hk'] using hQn
    · have h0 : expB b = topD (dig (dyM (valZ b)).natAbs) (dyE (valZ b) (expo b)) - 1 := by unfold expB; rw [if_neg (by rw [hf]; simp [hk])]
      have hk' : ((kindB b == 0) : Bool) = false := by simpa using hk
      have ht := top_bound b
      have hl := (sz_dyM (sz_val b)).len
      have he := dyE_bound (sz_uV b)
      rw [← dyE_uV] at he
      simp (disch := omega) [hf, hk', hk]
      refine CallK.of (by simp) (RefValue2_call hn b hb fun i1 n1 g1 b1 => ?_)
      rw [h0] at hQ
      have hQ1 := hQ n1 g1
      obtain ⟨tp, htp⟩ : ∃ tp, tp = topD (dig (dyM (valZ b)).natAbs) (dyE (valZ b) (expo b)) := ⟨_, rfl⟩
      rw [← htp] at ht hQ1
      simp (disch := omega) [g1]
      refine CallK.of (by simp) (RefTopD_call (by omega) _ i1 _ _ (by omega) (Lim.dig _) (by omega) ?_)
      rw [← htp]
      simpa (disch := omega) [g1] using hQ1
def tameB (k : Int) (b : Nat) : Bool := finB b && (decide (kindB b = 0) || (decide (-k ≤ expB b) && decide (expB b < k)))
def tmI (i : Sid) (l : List Nat) (kk : Int) (n : Nat) (k : Nat) (s : St) : Prop :=
  ∃ j nx : Nat, j + k = l.length ∧ At s 43 [] nx [(0, .sl i 1 (bts l)), (1, .int .i64 kk), (5, .int .i64 j)] ∧ n ≤ nx ∧ (l.take j).all (tameB kk) = true

theorem tameB_bad {kk : Int} {x : Nat} (h : finB x = false) : tameB kk x = false := by unfold tameB; rw [h]; rfl
theorem RefTame_call {n : Nat} (hn : 0 < n) (i : Sid) (l : List Nat) (kk : Int) (hl : l.length < 1000000) (hb : Bt l) (hkk : 0 ≤ kk ∧ kk ≤ 1000) {Q : PV → Nat → List Nat → Prop} (hQ : ∀ n', n ≤ n' → Q (.bool (l.all (tameB kk))) n' []) : PCall Tryd.prog 36 [.sl i 1 (bts l), .int .i64 kk] n Q := by
  have hneg : IntKind.i64.wrap (-kk) = -kk := wrap_i64_is rfl (by omega)
  have hbad : ∀ {j : Nat} (hj : j < l.length), tameB kk l[j] = false → ∀ n', n ≤ n' → Q (.bool false) n' [] := by
    intro j hj h n' g
    have : l.all (tameB kk) = false := by
      rw [Bool.eq_false_iff]; intro h2
      have := List.all_eq_true.1 h2 l[j] (List.getElem_mem hj)
      rw [h] at this; cases this
    have h3 := hQ n' g
    rwa [this] at h3
  refine of36 hn ?_
  simp (disch := omega) [c36]
  refine GO_loopN (tmI i l kk n) l.length ⟨0, n, by omega, by simp [At], Nat.le_refl _, by simp⟩ ?_
  rintro k s ⟨j, nx, hj, ⟨e1, e2, e3, e4, e5⟩, hnx, ha⟩
  simp at e5
  obtain ⟨e5, e6, e7⟩ := e5
  by_cases hk : j < l.length
  · obtain ⟨x, hx⟩ : ∃ x, x = l[j] := ⟨_, rfl⟩
    have hxb : x < 18446744073709551616 := by rw [hx]; exact hb.get hk
    have hbad := hbad hk
    rw [← hx] at hbad
    simp (disch := omega) [c36L0, e1, e2, e3, e4, e5, e6, e7, hk, ← hx]
    refine CallK.of (by simp) (RefFiniteB_call (by omega) x hxb ?_)
    cases hf : finB x
    · have := hbad (tameB_bad hf) nx hnx
      simpa (disch := omega) [e1, e2, e3, e4, e5, e6, e7, hnx] using this
    · simp (disch := omega) [e1, e2, e3, e4, e5, e6, e7, hk, ← hx]
      refine CallK.of (by simp) (RefKindB_call (by omega) x hxb ?_)
      by_cases hk0 : kindB x = 0
      · have hk' : ((kindB x != 0) : Bool) = false := by simpa using hk0
        have ht : tameB kk x = true := by unfold tameB; rw [hf]; simp [hk0]
        simp (disch := omega) [e1, e2, e3, e4, e5, e6, e7, hk', hk0]
        exact ⟨k - 1, by omega, j + 1, nx, by omega, by simp [At, e1, e2, e3, e4, e5, e6, e7], hnx, all_take hk ha (by rw [← hx]; exact ht)⟩
      · have hk' : ((kindB x != 0) : Bool) = true := by simpa using hk0
        have htm : tameB kk x = (decide (-kk ≤ expB x) && decide (expB x < kk)) := by unfold tameB; rw [hf]; simp [hk0]
        simp (disch := omega) [e1, e2, e3, e4, e5, e6, e7, hk', hk0, hk, ← hx]
        refine CallK.of (by simp) (Exp_call (by omega) x hxb fun n1 g1 => ?_)
        by_cases h1 : expB x < -kk
        · have := hbad (by rw [htm]; simp; intro h; omega) n1 (by omega)
          simpa (disch := omega) [-wrap_i64_at, hneg, e1, e2, e3, e4, e5, e6, e7, h1, g1] using ⟨by omega, this⟩
        · simp (disch := omega) [-wrap_i64_at, hneg, e1, e2, e3, e4, e5, e6, e7, h1, g1, hk, ← hx]
          refine CallK.of (by simp) (Exp_call (by omega) x hxb fun n2 g2 => ?_)
          by_cases h2 : kk ≤ expB x
          · have := hbad (by rw [htm]; simp; intro h; omega) n2 (by omega)
            simpa (disch := omega) [-wrap_i64_at, hneg, e1, e2, e3, e4, e5, e6, e7, h1, h2, g1, g2] using ⟨by omega, this⟩
          · simp (disch := omega) [e1, e2, e3, e4, e5, e6, e7, h2, g1, g2]
            exact ⟨k - 1, by omega, j + 1, n2, by omega, by simp [At, e1, e2, e3, e4, e5, e6, e7], by omega, all_take hk ha (by rw [← hx, htm]; simp; omega)⟩
  · have : l.take j = l := List.take_of_length_le (by omega)
    rw [this] at ha
    have := hQ nx hnx
    rw [ha] at this
    simpa (disch := omega) [c36L0, c36R0, e1, e2, e3, e4, e5, e6, e7, hk, hnx] using this
theorem Tame_call {n : Nat} (hn : 0 < n) (r c : Int) (i : Sid) (l : List Nat) (kk : Int) (hl : l.length < 1000000) (hb : Bt l) (hkk : 0 ≤ kk ∧ kk ≤ 1000) {Q : PV → Nat → List Nat → Prop} (hQ : ∀ n', n ≤ n' → Q (.bool (mOk r c l && l.all (tameB kk))) n' []) : PCall Tryd.prog 11 [Mx r c i l, .int .i64 kk] n Q := by
  refine of11 hn ?_
  simp (disch := omega) [c11]
  refine CallK.of (by simp) (MRight_call hn r c i l ?_)
  cases h : mOk r c l
  · have := hQ n (Nat.le_refl _)
    rw [h] at this
    simpa (disch := omega) [h] using this
  · simp (disch := omega) [h]
    refine CallK.of (by simp) (RefTame_call hn i l kk hl hb hkk fun n1 g1 => ?_)
    have := hQ n1 g1
    rw [h, Bool.true_and] at this
    simpa (disch := omega) [h, g1] using this
end Go.Proofs.YtphndngifjgeoaaDoor
