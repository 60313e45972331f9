/- The certificate's rank, whole; and that the program answers at all: by value. -/
import Derived.Test.YtphndngifjgeoaaGreatDoorCyF
set_option linter.unusedVariables false
set_option linter.unusedSimpArgs false
set_option maxRecDepth 20000
set_option maxHeartbeats 4000000
namespace Go.Proofs.YtphndngifjgeoaaGreatDoor
open Go.Proofs

theorem rep_succ {α : Type} (n : Nat) (a : α) : List.replicate n a ++ [a] = List.replicate (n + 1) a := by
  rw [List.replicate_succ']
def rtI (M0 : List PV) (T0 : List PV) (r n : Nat) (k : Nat) (s : St) : Prop :=
  ∃ (i nx : Nat) (o : Sid), i + k = r ∧ At s 57 [M0, T0] nx [(2, .int .i64 0), (5, .box 1 0), (6, .sl o 1 (List.replicate i Nl)), (21, .int .i64 r), (22, .int .i64 i)] ∧ Grow s.tips n nx o i ∧ n ≤ nx
def rtJ (M0 : List PV) (T0 : List PV) (r n i nx : Nat) (o : Sid) (k : Nat) (s : St) : Prop :=
  At s 57 [M0, T0] nx [(2, .int .i64 0), (5, .box 1 0), (6, .sl o 1 (List.replicate i Nl)), (21, .int .i64 r), (22, .int .i64 i), (7, .int .i64 i), (8, Nl), (26, .int .i64 0), (27, .int .i64 0)] ∧ Grow s.tips n nx o i
theorem Rank8_thin {n : Nat} (hn : 0 < n) (r : Nat) (i : Sid) (l : List Nat) (hb : Bt l) (h : mChk r (0 : Nat) l = 0) {Q : PV → Nat → List Nat → Prop}
    (hQ : ∀ (n' : Nat), n ≤ n' → Q (.tup [.int .i64 0, .int .i64 0]) n' []) : PCall Tryz.prog 24 [Mx r (0 : Nat) i l] n Q := by
  obtain ⟨hm, hf⟩ := mChk_ok h
  obtain ⟨hl, hl36, hr6, hc6⟩ := len36 hm
  refine of24 hn ?_
  simp (disch := omega) [c24]
  refine CallK.of (by simp) (MCheck11_call hn r (0 : Nat) i l (by omega) hb ?_)
  rw [h]
  simp (disch := omega) []
  refine CallK.of (by simp) (cof_call hn r 0 i l (by omega) hb hf fun o n1 z dl g1 d1 hdl hz hv => ?_)
  simp (disch := omega) [g1]
  refine GO_loopN (rtI [.int .i64 (r : Int), .int .i64 0, .sl i 1 (bts l)] [.int .i64 (r : Int), .int .i64 0, .sl o z (dl.map (Dv.pv (-1074)))] r n) r ⟨0, n1, ⟨0, 0, 0⟩, by omega, by simp [At], .inl ⟨rfl, rfl⟩, g1⟩ ?_
  rintro k s ⟨a, nx, o2, ha, ⟨e1, e2, e3, e4, e5⟩, hg, hnx⟩
  simp at e5
  obtain ⟨e5, e6, e7, e8, e9⟩ := e5
  by_cases hk : a < r
  · simp (disch := omega) [c24L1, e1, e2, e3, e4, e5, e6, e7, e8, e9, hk]
    refine GO_loopN (rtJ [.int .i64 (r : Int), .int .i64 0, .sl i 1 (bts l)] [.int .i64 (r : Int), .int .i64 0, .sl o z (dl.map (Dv.pv (-1074)))] r n a nx o2) 0 ⟨by simp [At, e1, e2, e3, e4, e5, e6, e7, e8, e9], by simpa using hg⟩ ?_
    rintro k2 s2 ⟨⟨f1, f2, f3, f4, f5⟩, hg1⟩
    simp at f5
    obtain ⟨f5, f6, f7, f8, f9, f10, f11, f12, f13⟩ := f5
    simp (disch := omega) [c24L0, c24R0, c24R1, f1, f2, f3, f4, f5, f6, f7, f8, f9, f10, f11, f12, f13]
    refine AppK_z (n := n) (nx := nx) (len := a) (tips0 := s2.tips) (T := 1) (by simp [f3]) (by simp [f3]) hg1 (by simp) (.inr rfl) (by omega) hn (by simp; omega) (by omega) fun tips i' h1 h2 h3 h4 => ?_
    simp (disch := omega) [f1, f2, f3, f4, f5, f6, f7, f8, f9, f10, f11, f12, f13]
    exact ⟨k - 1, by omega, a + 1, nx + 2, i', by omega, by simp [At, f1, f2, f3, f4, f5, f6, f7, f8, f9, f10, f11, f12, f13, rep_succ], by simpa using h3, by omega⟩
  · have har : a = r := by omega
    subst har
    simp (disch := omega) [c24L1, c24R2, e1, e2, e3, e4, e5, e6, e7, e8, e9]
    refine CallK.of (by simp) (RankThin_call (by omega) o2 a (by omega) ?_)
    have := hQ nx hnx
    simpa (disch := omega) [e1, e2, e3, e4, e5, e6, e7, e8, e9] using ⟨by omega, this⟩
theorem Rank8_err {n : Nat} (hn : 0 < n) (r c : Int) (i : Sid) (l : List Nat) (hl : l.length < 35184372088800) (hb : Bt l) (h : mChk r c l ≠ 0) {Q : PV → Nat → List Nat → Prop}
    (hQ : Q (.tup [.int .i64 0, .int .i64 (mChk r c l)]) n []) : PCall Tryz.prog 24 [Mx r c i l] n Q := by
  refine of24 hn ?_
  simp (disch := omega) [c24]
  refine CallK.of (by simp) (MCheck11_call hn r c i l hl hb ?_)
  have hne : ((mChk r c l != 0) : Bool) = true := by simpa using h
  simpa (disch := omega) [hne] using hQ
/-- The rank of a matrix that may be asked. -/
theorem Rank8_call {n : Nat} (hn : 0 < n) (r c : Nat) (i : Sid) (l : List Nat) (hb : Bt l) (h : mChk r c l = 0) {Q : PV → Nat → List Nat → Prop}
    (hQ : ∀ (n' b : Nat), n ≤ n' → IsRank (rowsOf r (mF r c l)) b → Q (.tup [.int .i64 b, .int .i64 0]) n' []) : PCall Tryz.prog 24 [Mx r c i l] n Q := by
  by_cases hc : 0 < c
  · exact Rank8_ok hn r c i l hb h hc fun n' b g hr _ => hQ n' b g hr
  · have hc0 : c = 0 := by omega
    subst hc0
    refine Rank8_thin hn r i l hb h fun n' g => hQ n' 0 g (rank_none fun R hR p => ?_)
    obtain ⟨q, hq, rfl⟩ := mem_rowsOf.1 hR
    unfold mF; rw [if_neg (by omega)]

/-! ### does the program answer -/
theorem one_call {n : Nat} (hn : 0 < n) (b : Nat) {Q : PV → Nat → List Nat → Prop} (hQ : ∀ (o : Sid) (n' : Nat), n ≤ n' → newSid n n' o → Q (Mx 1 1 o [b]) n' []) : PCall Tryz.prog 23 [.int .u64 b] n Q := by
  refine of23 hn ?_
  have := hQ ⟨n, n, 0⟩ (n + 1) (by omega) (.inr ⟨Nat.le_refl _, by show n < n + 1; omega⟩)
  simpa (disch := omega) [c23, bts] using this
theorem uV_one : uV 4607182418800017408 = 2 ^ e74 := by
  have h1 : valZ 4607182418800017408 = 2 ^ 52 := by decide
  have h2 : expo 4607182418800017408 = -52 := by decide
  unfold uV
  rw [h1, h2, ← Int.pow_add]
  congr 1
theorem uV_two : uV 4611686018427387904 = 2 * 2 ^ e74 := by
  have h1 : valZ 4611686018427387904 = 2 ^ 52 := by decide
  have h2 : expo 4611686018427387904 = -51 := by decide
  unfold uV
  rw [h1, h2, ← Int.pow_add, show (52 + ((-51 : Int) + 1074).toNat) = e74 + 1 from rfl, Int.pow_succ, Int.mul_comm]

theorem awake_val : rsS 1 1 [4611686018427387904] [4607182418800017408] [4607182418800017408] = 1 * 2 ^ (e74 + e74 + (e74 + e74)) := by
  have h0 : fv [4611686018427387904] 0 = 2 * 2 ^ e74 := uV_two
  have h1 : fv [4607182418800017408] 0 = 2 ^ e74 := uV_one
  have hp : pdF 1 1 [4607182418800017408] [4607182418800017408] 0 0 = 2 ^ e74 * 2 ^ e74 := by
    show 0 + fv [4607182418800017408] 0 * fv [4607182418800017408] 0 = _
    rw [h1, Int.zero_add]
  have hd : rsD 1 1 [4611686018427387904] [4607182418800017408] [4607182418800017408] 0 = 2 ^ e74 * 2 ^ e74 := by
    show fv [4611686018427387904] 0 * 2 ^ e74 - pdF 1 1 [4607182418800017408] [4607182418800017408] 0 0 = _
    rw [h0, hp, Int.two_mul, Int.add_mul]; omega
  show 0 + rsD 1 1 [4611686018427387904] [4607182418800017408] [4607182418800017408] 0 * rsD 1 1 [4611686018427387904] [4607182418800017408] [4607182418800017408] 0 = _
  rw [hd, Int.zero_add, Int.one_mul, ← Int.pow_add, ← Int.pow_add]
theorem one_M : dyM 1 = 1 := by
  have : tz (1 : Int).natAbs = 0 := tz_odd (by decide)
  unfold dyM
  rw [if_neg (by decide), this]; rfl
theorem one_E (L : Int) : dyE 1 L = L := by
  have : tz (1 : Int).natAbs = 0 := tz_odd (by decide)
  unfold dyE
  rw [if_neg (by decide), this]; simp
theorem one_d : dig 1 = [1] := by rw [dig_pos (by omega)]; simp [dig_zero]
theorem awake_call {n : Nat} (hn : 0 < n) {Q : PV → Nat → List Nat → Prop} (hQ : ∀ n', n ≤ n' → Q (.bool true) n' []) : PCall Tryz.prog 9 [] n Q := by
  have b2 : Bt [4611686018427387904] := fun x hx => by simp at hx; omega
  have b1 : Bt [4607182418800017408] := fun x hx => by simp at hx; omega
  have hre : resE 1 1 1 1 1 1 [4611686018427387904] [4607182418800017408] [4607182418800017408] = 0 := by decide
  have hck : mChk (1 : Nat) (1 : Nat) [4607182418800017408] = 0 := by decide
  refine of9 hn ?_
  simp (disch := omega) [c9]
  refine CallK.of (by simp) (one_call hn 4611686018427387904 fun o1 n1 g1 d1 => ?_)
  simp (disch := omega) [g1]
  refine CallK.of (by simp) (one_call (by omega) 4607182418800017408 fun o2 n2 g2 d2 => ?_)
  simp (disch := omega) [g1, g2]
  refine CallK.of (by simp) (one_call (by omega) 4607182418800017408 fun o3 n3 g3 d3 => ?_)
  simp (disch := omega) [g1, g2, g3]
  refine CallK.of (by simp) (Residual_call (by omega) 1 1 1 1 1 1 o1 o2 o3 [4611686018427387904] [4607182418800017408] [4607182418800017408] (by simp) (by simp) (by simp) b2 b1 b1 (fun h => absurd hre h) fun _ i4 n4 g4 d4 => ?_)
  have hM : dyM (rsS (1 : Int).toNat (1 : Int).toNat [4611686018427387904] [4607182418800017408] [4607182418800017408]) = 1 := by
    show dyM (rsS 1 1 _ _ _) = 1
    rw [awake_val, dyM_mul, one_M]
  have hE : dyE (rsS (1 : Int).toNat (1 : Int).toNat [4611686018427387904] [4607182418800017408] [4607182418800017408]) (-4296) = 0 := by
    show dyE (rsS 1 1 _ _ _) (-4296) = 0
    rw [awake_val, dyE_mul, one_E]
    have := e74_eq
    omega
  simp only [NV, hM, hE]
  have hd : dig (1 : Int).natAbs = [1] := one_d
  rw [hd]
  simp (disch := omega) [g1, g2, g3, g4]
  refine CallK.of (by simp) (one_call (by omega) 4607182418800017408 fun o5 n5 g5 d5 => ?_)
  simp (disch := omega) [g1, g2, g3, g4, g5]
  refine CallK.of (by simp) (Rank8_call (by omega) 1 1 o5 [4607182418800017408] b1 hck fun n6 b g6 hr => ?_)
  have hb : b = 1 := by
    refine hr.unique ⟨fun hv => ?_, Vm_rows _ 1⟩
    have := hv [mF 1 1 [4607182418800017408] 0] [0] rfl (by simp [rowsOf]) rfl
    have h1 : mF 1 1 [4607182418800017408] 0 0 = 2 ^ e74 := by
      unfold mF; rw [if_pos (by omega)]; exact uV_one
    have hp := two_pow_pos' e74
    simp [Dt, Sg, h1] at this
    all_goals omega
  subst hb
  have := hQ n6 (by omega)
  simpa (disch := omega) [g1, g2, g3, g4, g5, g6] using ⟨by omega, this⟩
end Go.Proofs.YtphndngifjgeoaaGreatDoor
