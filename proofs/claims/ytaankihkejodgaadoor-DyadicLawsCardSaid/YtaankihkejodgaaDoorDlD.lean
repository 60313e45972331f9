/- The laws of layer 2, by value: sums and products hang on no order and on no brackets. -/
import Derived.Test.YtaankihkejodgaaDoorDyH
set_option linter.unusedVariables false
set_option linter.unusedSimpArgs false
namespace Go.Proofs.YtaankihkejodgaaDoor
open Go.Proofs

section
variable {P : Program} {s : St} {dr : Bool} {d : Option Tmp} {K : St → Prop}
@[simp ↓] theorem PS_max3 (x y z : Operand) (ts : Array TypeId) : PStepC P dr d (.call { callee := .builtin .max, args := #[x, y, z], argTypes := ts }) K s ↔ okDst s d ∧ oz (max3V (s.ev x) (s.ev y) (s.ev z)) (fun v => K (s.put d v)) := Iff.rfl
@[simp ↓] theorem PS_min3 (x y z : Operand) (ts : Array TypeId) : PStepC P dr d (.call { callee := .builtin .min, args := #[x, y, z], argTypes := ts }) K s ↔ okDst s d ∧ oz (min3V (s.ev x) (s.ev y) (s.ev z)) (fun v => K (s.put d v)) := Iff.rfl
end
theorem max3_ex (e f g : Int) : ∃ M, max3V (.int .i64 e) (.int .i64 f) (.int .i64 g) = some (.int .i64 M) ∧ e ≤ M ∧ f ≤ M ∧ g ≤ M ∧ (M = e ∨ M = f ∨ M = g) := by
  refine ⟨_, rfl, ?_, ?_, ?_, ?_⟩ <;> (split <;> split <;> omega)
theorem min3_ex (e f g : Int) : ∃ M, min3V (.int .i64 e) (.int .i64 f) (.int .i64 g) = some (.int .i64 M) ∧ M ≤ e ∧ M ≤ f ∧ M ≤ g ∧ (M = e ∨ M = f ∨ M = g) := by
  refine ⟨_, rfl, ?_, ?_, ?_, ?_⟩ <;> (split <;> split <;> omega)

set_option maxRecDepth 100000 in
set_option maxHeartbeats 1000000 in
theorem DyadicLaws_call {n : Nat} (hn : 0 < n) (na nb nc : Bool) (ia ib ic : Sid) (hia : ia.f < n) (hib : ib.f < n) (hic : ic.f < n) (a b c : List Nat) (e f g : Int) (ha : a.length < 35184372088000) (hb : b.length < 35184372088000) (hc : c.length < 35184372088000) (la : Lim a) (lb : Lim b) (lc : Lim c) {Q : PV → Nat → List Nat → Prop}
    (hQ : ∀ n' D, n ≤ n' → (∀ x, x ∈ D → n ≤ x) → Q (.bool true) n' D) : PCall Tryd.prog 7 [D na ia a e, D nb ib b f, D nc ic c g] n Q := by
  have hQ : ∀ n', n ≤ n' → Q (.bool true) n' [] := fun n' h => hQ n' [] h (by simp)
  obtain ⟨M, hM, m1, m2, m3, m4⟩ := max3_ex e f g
  obtain ⟨L, hLm, l1, l2, l3, l4⟩ := min3_ex e f g
  refine of7 hn ?_
  simp (disch := omega) [c7]
  refine CallK.of (by simp) (formD_call hn na nb ia ib a b e f (by omega) (by omega) la lb ?_)
  cases hr : rightD na a e && rightD nb b f
  · simp (disch := omega) []
    refine CallK.of (by simp) (awakeD_call (by omega) fun n2 k2 => ?_)
    simpa [k2] using hQ n2 k2
  simp (disch := omega) []
  refine CallK.of (by simp) (formD_call hn nc nc ic ic c c g g (by omega) (by omega) lc lc ?_)
  rw [Bool.and_self]
  cases hrc : rightD nc c g
  · simp (disch := omega) []
    refine CallK.of (by simp) (awakeD_call (by omega) fun n2 k2 => ?_)
    simpa [k2] using hQ n2 k2
  simp (disch := omega) []
  refine CallK.of (by simp) (lightD_call hn na nb ia ib a b e f (by omega) (by omega) ?_)
  by_cases hl : a.length ≤ 30 ∧ b.length ≤ 30
  case neg =>
    have hl3 : (decide (a.length ≤ 30) && decide (b.length ≤ 30)) = false := by simp; omega
    rw [hl3]
    simp (disch := omega) []
    refine CallK.of (by simp) (awakeD_call (by omega) fun n2 k2 => ?_)
    simpa [k2] using hQ n2 k2
  obtain ⟨hl1, hl2⟩ := hl
  simp (disch := omega) [hl1, hl2]
  refine CallK.of (by simp) (lightD_call hn nc nc ic ic c c g g (by omega) (by omega) ?_)
  by_cases hl4 : c.length ≤ 30
  case neg =>
    simp (disch := omega) [hl4]
    refine CallK.of (by simp) (awakeD_call (by omega) fun n2 k2 => ?_)
    simpa [k2] using hQ n2 k2
  rw [Bool.and_eq_true] at hr
  have be := rightD_E hr.1
  have bf := rightD_E hr.2
  have bg := rightD_E hrc
  have wML : IntKind.i64.wrap (M - L) = M - L := wrap_i64_is rfl (by omega)
  by_cases c1 : 4000 < M - L
  · simp (disch := omega) [-wrap_i64_at, hl4, hM, hLm, wML, c1]
    refine CallK.of (by simp) (awakeD_call (by omega) fun n2 k2 => ?_)
    simpa [k2] using hQ n2 k2
  by_cases c2 : 4000 < M
  · simp (disch := omega) [-wrap_i64_at, hl4, hM, hLm, wML, c1, c2]
    refine CallK.of (by simp) (awakeD_call (by omega) fun n2 k2 => ?_)
    simpa [k2] using hQ n2 k2
  by_cases c3 : L < -4000
  · simp (disch := omega) [-wrap_i64_at, hl4, hM, hLm, wML, c1, c2, c3]
    refine CallK.of (by simp) (awakeD_call (by omega) fun n2 k2 => ?_)
    simpa [k2] using hQ n2 k2
  simp (disch := omega) [-wrap_i64_at, hl4, hM, hLm, wML, c1, c2, c3]
  obtain ⟨x, rfl, rfl, sx, _, _, xM, x0, xt⟩ := rightD_Z hr.1 la
  obtain ⟨y, rfl, rfl, sy, _, _, yM, y0, yt⟩ := rightD_Z hr.2 lb
  obtain ⟨z, rfl, rfl, sz', _, _, zM, z0, zt⟩ := rightD_Z hrc lc
  have sx' : sz x 30 := (sz_dig x).mono hl1
  have sy' : sz y 30 := (sz_dig y).mono hl2
  have sz2 : sz z 30 := (sz_dig z).mono hl4
  obtain ⟨j, hj⟩ : ∃ j : Nat, j = ((M - L).toNat + 31) / 32 := ⟨_, rfl⟩
  have hj1 : M - L ≤ 32 * j := by omega
  have hj2 : 32 * (j : Int) ≤ M - L + 31 := by omega
  have hj3 : j ≤ 125 := by omega
  obtain ⟨v, hv1, hv2, sv, hv0⟩ := right_V (L := L) xM x0 xt l1 sx' (j := j) (by omega)
  obtain ⟨w, hw1, hw2, sw, hw0⟩ := right_V (L := L) yM y0 yt l2 sy' (j := j) (by omega)
  obtain ⟨u, hu1, hu2, su, hu0⟩ := right_V (L := L) zM z0 zt l3 sz2 (j := j) (by omega)
  have lx := sx'.len
  have ly := sy'.len
  have lz := sz2.len
  clear la lb lc hr hrc ha hb hc hl1 hl2 hl4 sx sy sz' xM yM zM x0 y0 z0 xt yt zt hM hLm
  subst hv1 hw1 hu1
  obtain ⟨t, ht⟩ : ∃ t, t = dyM u := ⟨_, rfl⟩
  obtain ⟨q1, hq1⟩ : ∃ q, v + w = q := ⟨_, rfl⟩
  obtain ⟨q2, hq2⟩ : ∃ q, q1 + u = q := ⟨_, rfl⟩
  obtain ⟨q3, hq3⟩ : ∃ q, w + u = q := ⟨_, rfl⟩
  obtain ⟨p1, hp1⟩ : ∃ q, q1 * dyM u = q := ⟨_, rfl⟩
  obtain ⟨p2, hp2⟩ : ∃ q, v * dyM u = q := ⟨_, rfl⟩
  obtain ⟨p3, hp3⟩ : ∃ q, w * dyM u = q := ⟨_, rfl⟩
  obtain ⟨d0, hd0⟩ : ∃ q, v - w = q := ⟨_, rfl⟩
  have hp : p2 + p3 = p1 := by rw [← hp1, ← hp2, ← hp3, ← hq1, Int.add_mul]
  have s1 : sz q1 (30 + j + 1) := hq1 ▸ sv.add sw
  have s2 : sz q2 (30 + j + 2) := hq2 ▸ s1.add (su.mono (by omega))
  have s3 : sz q3 (30 + j + 1) := hq3 ▸ sw.add su
  have sp2 : sz p2 (60 + j) := (hp2 ▸ sv.mul sz2 : sz p2 (30 + j + 30)).mono (by omega)
  have sp3 : sz p3 (60 + j) := (hp3 ▸ sw.mul sz2 : sz p3 (30 + j + 30)).mono (by omega)
  have sp1 : sz p1 (60 + j + 1) := hp ▸ sp2.add sp3
  have sd : sz d0 (30 + j + 1) := hd0 ▸ sv.sub sw
  subst hv2 hw2 hu2
  have E1 : -4000 ≤ dyE u L ∧ dyE u L ≤ 4000 := by omega
  refine CallK.of (by simp) (Add_V (by omega) L v w q1 ia ib (30 + j) sv sw (by omega) (by omega) hq1 fun i1 n1 g1 d1 => ?_)
  simp (disch := omega) [g1]
  refine CallK.of (by simp) (Add_V (by omega) L w v q1 ib ia (30 + j) sw sv (by omega) (by omega) (by omega) fun i2 n2 g2 d2 => ?_)
  simp (disch := omega) [g1, g2]
  refine CallK.of (by simp) (Add_V (by omega) L q1 u q2 i1 ic (30 + j + 1) s1 (su.mono (by omega)) (by omega) (by omega) hq2 fun i3 n3 g3 d3 => ?_)
  simp (disch := omega) [g1, g2, g3]
  refine CallK.of (by simp) (Add_V (by omega) L w u q3 ib ic (30 + j) sw su (by omega) (by omega) hq3 fun i4 n4 g4 d4 => ?_)
  simp (disch := omega) [g1, g2, g3, g4]
  refine CallK.of (by simp) (Add_V (by omega) L v q3 q2 ia i4 (30 + j + 1) (sv.mono (by omega)) s3 (by omega) (by omega) (by omega) fun i5 n5 g5 d5 => ?_)
  simp (disch := omega) [g1, g2, g3, g4, g5]
  have f1 := newSid_lt d1 (by omega)
  refine CallK.of (by simp) (Mul_VR (by omega) L q1 u p1 i1 ic (by omega) (by omega) (30 + j + 1) 30 s1 sz2 (by omega) (by omega) (by omega) (by omega) hp1 fun i6 n6 g6 d6 => ?_)
  simp (disch := omega) [g1, g2, g3, g4, g5, g6]
  refine CallK.of (by simp) (Mul_VR (by omega) L v u p2 ia ic (by omega) (by omega) (30 + j) 30 sv sz2 (by omega) (by omega) (by omega) (by omega) hp2 fun i7 n7 g7 d7 => ?_)
  simp (disch := omega) [g1, g2, g3, g4, g5, g6, g7]
  refine CallK.of (by simp) (Mul_VL (by omega) L w u p3 ib ic (by omega) (by omega) (30 + j) 30 sw sz2 (by omega) (by omega) (by omega) (by omega) hp3 fun i8 n8 g8 d8 => ?_)
  simp (disch := omega) [g1, g2, g3, g4, g5, g6, g7, g8]
  refine CallK.of (by simp) (Add_V (by omega) (L + dyE u L) p2 p3 p1 i7 i8 (60 + j) sp2 sp3 (by omega) (by omega) hp fun i9 n9 g9 d9 => ?_)
  simp (disch := omega) [g1, g2, g3, g4, g5, g6, g7, g8, g9]
  refine CallK.of (by simp) (Sub_V (by omega) L v w d0 ia ib (30 + j) sv sw (by omega) (by omega) hd0 fun i10 n10 g10 d10 => ?_)
  simp (disch := omega) [g1, g2, g3, g4, g5, g6, g7, g8, g9, g10]
  refine CallK.of (by simp) (Add_V (by omega) L d0 w v i10 ib (30 + j + 1) sd (sw.mono (by omega)) (by omega) (by omega) (by omega) fun i11 n11 g11 d11 => ?_)
  simp (disch := omega) [g1, g2, g3, g4, g5, g6, g7, g8, g9, g10, g11]
  have k1 := (sz_dyM s1).len
  have k2 := (sz_dyM s2).len
  have k3 := (sz_dyM sp1).len
  have k4 := (sz_dyM sv).len
  refine CallK.of (by simp) (SameD_call (by omega) _ _ i1 i2 _ _ _ _ (by omega) ?_)
  simp (disch := omega) [g1, g2, g3, g4, g5, g6, g7, g8, g9, g10, g11]
  refine CallK.of (by simp) (SameD_call (by omega) _ _ i3 i5 _ _ _ _ (by omega) ?_)
  simp (disch := omega) [g1, g2, g3, g4, g5, g6, g7, g8, g9, g10, g11]
  refine CallK.of (by simp) (SameD_call (by omega) _ _ i6 i9 _ _ _ _ (by omega) ?_)
  simp (disch := omega) [g1, g2, g3, g4, g5, g6, g7, g8, g9, g10, g11]
  refine CallK.of (by simp) (SameD_call (by omega) _ _ i11 ia _ _ _ _ (by omega) ?_)
  simp (disch := omega) [g1, g2, g3, g4, g5, g6, g7, g8, g9, g10, g11]
  refine CallK.of (by simp) (awakeD_call (by omega) fun n12 g12 => ?_)
  simpa [show n ≤ n12 by omega] using hQ n12 (by omega)
end Go.Proofs.YtaankihkejodgaaDoor
