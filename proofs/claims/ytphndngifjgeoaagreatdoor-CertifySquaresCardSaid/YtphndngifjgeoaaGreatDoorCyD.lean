/- The exact product of two tables, by value: each place is a sum of products. -/
import Derived.Test.YtphndngifjgeoaaGreatDoorCyC
set_option linter.unusedVariables false
set_option linter.unusedSimpArgs false
set_option maxRecDepth 20000
set_option maxHeartbeats 4000000
namespace Go.Proofs.YtphndngifjgeoaaGreatDoor
open Go.Proofs

@[simp ↓] theorem PS_makeFunc {P : Program} {s : St} {dr : Bool} {d : Option Tmp} {K : St → Prop} (g : FuncId) (caps : List Operand) : PStepC P dr d (.makeFunc (.func g) #[] caps.toArray) K s ↔ okDst s d ∧ K (s.put d (.fn g (caps.map s.ev))) := by
  refine and_congr Iff.rfl ?_
  constructor
  · rintro ⟨v, e, k⟩
    have : v = .fn g (caps.map s.ev) := by simpa [light] using e.symm
    subst this; exact k
  · intro k
    exact ⟨_, by simp [light], k⟩
theorem CloK.of2 {P : Program} {g : FuncId} (hc : callable P g) {caps args : List PV} {s : St} {d : Option Tmp} {K : St → Prop} {bx : List (List PV)} {n : Nat} (hb : s.boxes = bx) (hnx : s.next = n)
    (h : PCallB P g (args ++ caps) bx n fun v bx' n' => K ((s.afterB bx' n').put d v)) : CloK P (.fn g caps) args s d K := by
  subst hb; subst hnx; exact CloK.of hc h
/-- Where a number of the first factor lies. -/
def paI (t : Bool) (ca i j : Nat) : Nat := if t = true then j * ca + i else i * ca + j
def prF (t : Bool) (ca cb : Nat) (A B : List Dv) (nn i k : Nat) : Int := sumN (fun j => (A.getD (paI t ca i j) default).v * (B.getD (j * cb + k) default).v) nn
def prG (t : Bool) (ca cb : Nat) (A B : List Dv) (nn n nx : Nat) (P : List Dv) : Prop :=
  ∀ q (hq : q < P.length), P[q].v = prF t ca cb A B nn (q / cb) (q % cb) ∧ newSid n nx P[q].i
theorem prG.mono {t : Bool} {ca cb : Nat} {A B : List Dv} {nn n nx nx' : Nat} {P : List Dv} (h : prG t ca cb A B nn n nx P) (hn : nx ≤ nx') : prG t ca cb A B nn n nx' P := fun q hq => ⟨(h q hq).1, newSid_up (h q hq).2 (Nat.le_refl _) hn⟩
abbrev pb0 (ra ca : Nat) (ia : Sid) (za : Nat) (La : Int) (A : List Dv) : List PV := [.int .i64 (ra : Int), .int .i64 (ca : Int), .sl ia za (A.map (Dv.pv La))]
/-- The elements' limbs lie elsewhere than the elements. -/
def prS (nx : Nat) (o : Sid) (P : List Dv) : Prop := (o.g = 0 ∧ P = []) ∨ (o.g ≠ 0 ∧ o.f < nx ∧ ∀ q (hq : q < P.length), P[q].i.f ≠ o.f)
theorem prS.mono {nx nx' : Nat} {o : Sid} {P : List Dv} (h : prS nx o P) (hn : nx ≤ nx') : prS nx' o P := by
  rcases h with h | ⟨h1, h2, h3⟩
  · exact .inl h
  · exact .inr ⟨h1, by omega, h3⟩
def prI (t : Bool) (a b : List PV) (ca cb rows nn : Nat) (L : Int) (A Bl : List Dv) (n : Nat) (k : Nat) (s : St) : Prop :=
  ∃ (i nx z : Nat) (o : Sid) (P : List Dv) (B : List (List PV)) (r0 : List PV), i + k = rows ∧ r0.length = 3 ∧
    At s 74 (a :: b :: r0 :: pb0 rows cb o z L P :: B) nx [(2, .bool t), (3, .box 0 0), (4, .box 1 0), (6, .box 2 0), (7, .int .i64 nn), (9, .box 3 0), (28, .int .i64 rows), (29, .int .i64 i)] ∧
    Grow s.tips n nx o (P.length * 3) ∧ n ≤ nx ∧ P.length = i * cb ∧ (o.g = 0 ∨ z = 3) ∧ prG t ca cb A Bl nn n nx P ∧ prS nx o P
def prJ (t : Bool) (a b : List PV) (ca cb rows nn : Nat) (L : Int) (A Bl : List Dv) (n i : Nat) (k : Nat) (s : St) : Prop :=
  ∃ (kk nx z : Nat) (o : Sid) (P : List Dv) (B : List (List PV)) (r0 : List PV), kk + k = cb ∧ r0.length = 3 ∧
    At s 74 (a :: b :: r0 :: pb0 rows cb o z L P :: B) nx [(2, .bool t), (3, .box 0 0), (4, .box 1 0), (6, .box 2 0), (7, .int .i64 nn), (9, .box 3 0), (28, .int .i64 rows), (29, .int .i64 i), (10, .int .i64 i), (33, .int .i64 cb), (34, .int .i64 kk)] ∧
    Grow s.tips n nx o (P.length * 3) ∧ n ≤ nx ∧ P.length = i * cb + kk ∧ (o.g = 0 ∨ z = 3) ∧ prG t ca cb A Bl nn n nx P ∧ prS nx o P
def prK (t : Bool) (a b : List PV) (ca cb rows nn : Nat) (L : Int) (A Bl P : List Dv) (o : Sid) (z : Nat) (r0 : List PV) (B : List (List PV)) (n nx0 i kk p : Nat) (k : Nat) (s : St) : Prop :=
  ∃ (j nx : Nat) (S : Int) (iS : Sid) (C : List (List PV)), j + k = nn ∧
    At s 74 (a :: b :: r0 :: pb0 rows cb o z L P :: (B ++ NC L S iS :: C)) nx [(2, .bool t), (3, .box 0 0), (4, .box 1 0), (6, .box 2 0), (7, .int .i64 nn), (9, .box 3 0), (28, .int .i64 rows), (29, .int .i64 i), (10, .int .i64 i), (33, .int .i64 cb), (34, .int .i64 kk), (11, .int .i64 kk), (12, .box (B.length + 4) 0), (13, .fn 40 [.box (B.length + 4) 0]), (39, .int .i64 nn), (40, .int .i64 j)] ∧
    Grow s.tips n nx o (P.length * 3) ∧ nx0 ≤ nx ∧ (newSid n nx iS ∧ (iS.f = 0 ∨ nx0 ≤ iS.f)) ∧ sz S (p + j) ∧ S = sumN (fun j => (A.getD (paI t ca i j) default).v * (Bl.getD (j * cb + kk) default).v) j
theorem lt_mul_of {i k r c : Nat} (h1 : i < r) (h2 : k < c) : i * c + k < r * c := by
  have : (i + 1) * c ≤ r * c := Nat.mul_le_mul_right _ h1
  rw [Nat.add_mul] at this; omega
theorem product_call {n : Nat} (hn : 0 < n) (t : Bool) (ra ca rb cb : Nat) (ia ib : Sid) (za zb : Nat) (La Lb : Int) (A Bl : List Dv) (ka kb nn rows : Nat) (hnn : nn = if t = true then ra else ca) (hrows : rows = if t = true then ca else ra) (hrb : rb = nn)
    (hA : A.length = ra * ca) (hB : Bl.length = rb * cb) (h6 : ra ≤ 6 ∧ ca ≤ 6 ∧ rb ≤ 6 ∧ cb ≤ 6) (hza : za = 3 ∨ A = []) (hzb : zb = 3 ∨ Bl = []) (h1 : DvOk n ka A) (h2 : DvOk n kb Bl) (hk : ka + kb + 7 ≤ 511) (hLa : -16384 ≤ La ∧ La + 32 * ka ≤ 16384) (hLb : -16384 ≤ Lb ∧ Lb + 32 * kb ≤ 16384) (hLL : -16384 ≤ La + Lb ∧ La + Lb + 32 * (ka + kb + 8) ≤ 16384)
    {Q : PV → Nat → List Nat → Prop}
    (hQ : ∀ (o : Sid) (n' z : Nat) (P : List Dv), n ≤ n' → newSid n n' o → P.length = rows * cb → (z = 3 ∨ P = []) → prG t ca cb A Bl nn n n' P → prS n' o P → Q (Tb rows cb o z (La + Lb) P) n' []) : PCall Tryz.prog 16 [Tb ra ca ia za La A, Tb rb cb ib zb Lb Bl, .bool t] n Q := by
  have hr6 : rows ≤ 6 := by rw [hrows]; split <;> omega
  have hn6 : nn ≤ 6 := by rw [hnn]; split <;> omega
  have hA36 : A.length ≤ 36 := by rw [hA]; exact Nat.mul_le_mul h6.1 h6.2.1
  have hB36 : Bl.length ≤ 36 := by rw [hB]; exact Nat.mul_le_mul h6.2.2.1 h6.2.2.2
  refine of16 hn ?_
  have key : ∀ s : St, prI t (pb0 ra ca ia za La A) (pb0 rb cb ib zb Lb Bl) ca cb rows nn (La + Lb) A Bl n rows s → GO Tryz.prog (.loop c16L2) (PExit.inBlock 0 (PExit.then (GO Tryz.prog c16R3 (fin Tryz.prog [.cell 6 40] n Q)) (fin Tryz.prog [.cell 6 40] n Q))) s := by
    intro s h0
    refine GO_loopN (prI t (pb0 ra ca ia za La A) (pb0 rb cb ib zb Lb Bl) ca cb rows nn (La + Lb) A Bl n) rows h0 ?_
    clear h0 s
    rintro k s ⟨i, nx, z, o, P, B, r0, hi, hr0, ⟨e1, e2, e3, e4, e5⟩, hg, hnx, hP, hz, hv, hsp⟩
    simp at e5
    obtain ⟨e5, e6, e7, e8, e9, e10, e11, e12⟩ := e5
    by_cases hk1 : i < rows
    · simp (disch := omega) [c16L2, e1, e2, e3, e4, e5, e6, e7, e8, e9, e10, e11, e12, hk1]
      refine GO_loopN (prJ t (pb0 ra ca ia za La A) (pb0 rb cb ib zb Lb Bl) ca cb rows nn (La + Lb) A Bl n i) cb ⟨0, nx, z, o, P, B, r0, by omega, hr0, by simp [At, e1, e2, e3, e4, e5, e6, e7, e8, e9, e10, e11, e12], by simpa using hg, hnx, by omega, hz, hv, hsp⟩ ?_
      rintro k2 s2 ⟨kk, nx2, z2, o2, P2, B2, r2, hkk, hr2, ⟨f1, f2, f3, f4, f5⟩, hg2, hnx2, hP2, hz2, hv2, hsp2⟩
      simp at f5
      obtain ⟨f5, f6, f7, f8, f9, f10, f11, f12, f13, f14, f15⟩ := f5
      by_cases hk2 : kk < cb
      · simp (disch := omega) [c16L1, f1, f2, f3, f4, f5, f6, f7, f8, f9, f10, f11, f12, f13, f14, f15, hk2]
        refine GO_loopN (prK t (pb0 ra ca ia za La A) (pb0 rb cb ib zb Lb Bl) ca cb rows nn (La + Lb) A Bl P2 o2 z2 r2 B2 n nx2 i kk (ka + kb)) nn ⟨0, nx2, 0, ⟨0, 0, 0⟩, [], by omega, by rw [NC_zero]; simp [At, f1, f2, f3, f4, f5, f6, f7, f8, f9, f10, f11, f12, f13, f14, f15], by simpa using hg2, Nat.le_refl _, ⟨.inl rfl, .inl rfl⟩, sz_zero _, rfl⟩ ?_
        rintro k3 s3 ⟨j, nx3, S, iS, C, hj, ⟨q1, q2, q3, q4, q5⟩, hg3, hnx3, ⟨hiS, hiS2⟩, hSs, hS⟩
        simp at q5
        obtain ⟨q5, q6, q7, q8, q9, q10, q11, q12, q13, q14, q15, q16, q17, q18, q19, q20⟩ := q5
        by_cases hk3 : j < nn
        · obtain ⟨pa, hpa⟩ : ∃ pa, pa = paI t ca i j := ⟨_, rfl⟩
          obtain ⟨pb, hpb⟩ : ∃ pb, pb = j * cb + kk := ⟨_, rfl⟩
          have hpaA : pa < A.length := by
            rw [hpa, hA]; unfold paI
            cases t
            · simp only [Bool.false_eq_true, if_false] at hnn hrows ⊢
              exact lt_mul_of (by omega) (by omega)
            · simp only [if_true] at hnn hrows ⊢
              exact lt_mul_of (by omega) (by omega)
          have hpbB : pb < Bl.length := by rw [hpb, hB, hrb]; exact lt_mul_of hk3 hk2
          have hza' : za = 3 := hza.resolve_right (fun h => by rw [h] at hpaA; simp at hpaA)
          have hzb' : zb = 3 := hzb.resolve_right (fun h => by rw [h] at hpbB; simp at hpbB)
          obtain ⟨x, hx⟩ : ∃ x, x = A[pa] := ⟨_, rfl⟩
          obtain ⟨y, hy⟩ : ∃ y, y = Bl[pb] := ⟨_, rfl⟩
          have hxo := h1.get hpaA
          have hyo := h2.get hpbB
          rw [← hx] at hxo
          rw [← hy] at hyo
          have hf : (A.getD (paI t ca i j) default).v * (Bl.getD (j * cb + kk) default).v = x.v * y.v := by
            rw [← hpa, ← hpb]; simp [List.getD, hpaA, hpbB, hx, hy]
          have hpr : sz (x.v * y.v) (ka + kb) := hxo.2.mul hyo.2
          cases t
          · simp (disch := omega) [c16L0, q1, q2, q3, q4, q5, q6, q7, q8, q9, q10, q11, q12, q13, q14, q15, q16, q17, q18, q19, q20, hk3]
            refine CallK.of (by simp) (at_call (by omega) ra ca ia za La A i j pa (by rw [hpa]; rfl) hpaA (by omega) hza' x hx.symm ?_)
            simp (disch := omega) [q1, q2, q3, q4, q5, q6, q7, q8, q9, q10, q11, q12, q13, q14, q15, q16, q17, q18, q19, q20, hk3]
            refine CallK.of (by simp) (at_call (by omega) rb cb ib zb Lb Bl j kk pb hpb.symm hpbB (by omega) hzb' y hy.symm ?_)
            simp (disch := omega) [q1, q2, q3, q4, q5, q6, q7, q8, q9, q10, q11, q12, q13, q14, q15, q16, q17, q18, q19, q20, hk3]
            refine CloK.of2 (bx := pb0 ra ca ia za La A :: pb0 rb cb ib zb Lb Bl :: r2 :: pb0 rows cb o2 z2 (La + Lb) P2 :: (B2 ++ NC (La + Lb) S iS :: C)) (n := nx3) (by simp) (by simp [q2]) (by simp [q3]) (clo_call (by omega) La Lb x.v y.v S x.i y.i iS (by omega) (by omega) ka kb (ka + kb + j) hxo.2 hyo.2 (by omega) hLa hLb hSs (by omega) (by omega) _ (B2.length + 4) (by simp) fun i4 n4 t1 t2 g4 d4 => ?_)
            simp (disch := omega) [q1, q2, q3, q4, q5, q6, q7, q8, q9, q10, q11, q12, q13, q14, q15, q16, q17, q18, q19, q20]
            exact ⟨k3 - 1, by omega, j + 1, n4, S + x.v * y.v, i4, C ++ [t1, t2], by omega, by simp [At, q1, q2, q3, q4, q5, q6, q7, q8, q9, q10, q11, q12, q13, q14, q15, q16, q17, q18, q19, q20], (hg3.mono g4), by omega, ⟨newSid_up d4 (by omega) (by omega), by rcases d4 with h | h; exact .inl (by rw [h]); exact .inr (by omega)⟩, (hSs.add (hpr.mono (by omega))).mono (by omega), by rw [hS]; simp only [sumN]; rw [hf]⟩
          · simp (disch := omega) [c16L0, q1, q2, q3, q4, q5, q6, q7, q8, q9, q10, q11, q12, q13, q14, q15, q16, q17, q18, q19, q20, hk3]
            refine CallK.of (by simp) (at_call (by omega) ra ca ia za La A j i pa (by rw [hpa]; rfl) hpaA (by omega) hza' x hx.symm ?_)
            simp (disch := omega) [q1, q2, q3, q4, q5, q6, q7, q8, q9, q10, q11, q12, q13, q14, q15, q16, q17, q18, q19, q20, hk3]
            refine CallK.of (by simp) (at_call (by omega) rb cb ib zb Lb Bl j kk pb hpb.symm hpbB (by omega) hzb' y hy.symm ?_)
            simp (disch := omega) [q1, q2, q3, q4, q5, q6, q7, q8, q9, q10, q11, q12, q13, q14, q15, q16, q17, q18, q19, q20, hk3]
            refine CloK.of2 (bx := pb0 ra ca ia za La A :: pb0 rb cb ib zb Lb Bl :: r2 :: pb0 rows cb o2 z2 (La + Lb) P2 :: (B2 ++ NC (La + Lb) S iS :: C)) (n := nx3) (by simp) (by simp [q2]) (by simp [q3]) (clo_call (by omega) La Lb x.v y.v S x.i y.i iS (by omega) (by omega) ka kb (ka + kb + j) hxo.2 hyo.2 (by omega) hLa hLb hSs (by omega) (by omega) _ (B2.length + 4) (by simp) fun i4 n4 t1 t2 g4 d4 => ?_)
            simp (disch := omega) [q1, q2, q3, q4, q5, q6, q7, q8, q9, q10, q11, q12, q13, q14, q15, q16, q17, q18, q19, q20]
            exact ⟨k3 - 1, by omega, j + 1, n4, S + x.v * y.v, i4, C ++ [t1, t2], by omega, by simp [At, q1, q2, q3, q4, q5, q6, q7, q8, q9, q10, q11, q12, q13, q14, q15, q16, q17, q18, q19, q20], (hg3.mono g4), by omega, ⟨newSid_up d4 (by omega) (by omega), by rcases d4 with h | h; exact .inl (by rw [h]); exact .inr (by omega)⟩, (hSs.add (hpr.mono (by omega))).mono (by omega), by rw [hS]; simp only [sumN]; rw [hf]⟩
        · have hjn : j = nn := by omega
          simp (disch := omega) [c16L0, c16R0, c16R1, q1, q2, q3, q4, q5, q6, q7, q8, q9, q10, q11, q12, q13, q14, q15, q16, q17, q18, q19, q20, hk3]
          have hP36 : P2.length ≤ 100 := by
            have : i * cb + kk < rows * cb := lt_mul_of hk1 hk2
            have : rows * cb ≤ 6 * 6 := Nat.mul_le_mul hr6 h6.2.2.2
            omega
          refine AppK_f (n := n) (nx := nx3) (len := P2.length * 3) (tips0 := s3.tips) (T := 3) (by simp [q3]) (by simp [q3]) hg3 (by simp) hz2 (by omega) hn (by simp; omega) (by omega) fun tips i' g1 g2 g3 gf g4 => ?_
          simp (disch := omega) [q1, q2, q3, q4, q5, q6, q7, q8, q9, q10, q11, q12, q13, q14, q15, q16, q17, q18, q19, q20]
          refine ⟨k2 - 1, by omega, kk + 1, nx3 + 2, 3, i', P2 ++ [⟨S, iS⟩], B2 ++ NC (La + Lb) S iS :: C, r2, by omega, hr2, by simp [At, q1, q2, q3, q4, q5, q6, q7, q8, q9, q10, q11, q12, q13, q14, q15, q16, q17, q18, q19, q20], by rw [show (P2 ++ [(⟨S, iS⟩ : Dv)]).length * 3 = P2.length * 3 + 3 by simp; omega]; simpa using g3, by omega, by simp; omega, .inr rfl, fun q hq => ?_, ?_⟩
          rotate_left
          · have hlt : i'.f < nx3 + 2 := by
              rcases g3 with ⟨h, _⟩ | ⟨_, _, _, _, h, _⟩
              · rw [h] at g1; exact absurd g1 (by show ¬ nx3 < 0; omega)
              · exact h
            refine .inr ⟨by omega, hlt, fun q hq => ?_⟩
            rcases hsp2 with ⟨hs1, hs2⟩ | ⟨hs1, hs2, hs3⟩
            · subst hs2
              have hf := gf.resolve_right (fun e => e.1 hs1)
              have hq0 : q = 0 := by simp at hq; omega
              subst hq0
              show iS.f ≠ i'.f
              have : iS.f < nx3 := newSid_lt hiS (by omega)
              omega
            · have hf := gf.resolve_left (fun e => hs1 e.1)
              have ho2 : n ≤ o2.f := by
                rcases hg2 with ⟨h, _⟩ | ⟨_, _, _, h, _, _⟩
                · exact absurd (by rw [h]) hs1
                · exact h
              by_cases hqj : q < P2.length
              · rw [List.getElem_append_left hqj, hf.2]; exact hs3 q hqj
              · have hqe : q = P2.length := by simp at hq; omega
                subst hqe
                have e : (P2 ++ [(⟨S, iS⟩ : Dv)])[P2.length] = ⟨S, iS⟩ := by
                  rw [List.getElem_append_right (by omega)]; simp
                rw [e, hf.2]
                show iS.f ≠ o2.f
                omega
          by_cases hqj : q < P2.length
          · have := hv2 q hqj
            rw [List.getElem_append_left hqj]
            exact ⟨this.1, newSid_up this.2 (Nat.le_refl _) (by omega)⟩
          · have hqe : q = P2.length := by simp at hq; omega
            subst hqe
            have e : (P2 ++ [(⟨S, iS⟩ : Dv)])[P2.length] = ⟨S, iS⟩ := by
              rw [List.getElem_append_right (by omega)]; simp
            rw [e]
            have hdiv : P2.length / cb = i ∧ P2.length % cb = kk := by
              rw [hP2, Nat.mul_comm]
              exact ⟨by rw [Nat.mul_add_div (by omega), Nat.div_eq_of_lt hk2]; rfl, by rw [Nat.mul_add_mod, Nat.mod_eq_of_lt hk2]⟩
            refine ⟨?_, newSid_up hiS (Nat.le_refl _) (by omega)⟩
            rw [hdiv.1, hdiv.2, hS, hjn]; rfl
      · have hkc : kk = cb := by omega
        simp (disch := omega) [c16L1, c16R2, f1, f2, f3, f4, f5, f6, f7, f8, f9, f10, f11, f12, f13, f14, f15, hk2]
        exact ⟨k - 1, by omega, i + 1, nx2, z2, o2, P2, B2, r2, by omega, hr2, by simp [At, f1, f2, f3, f4, f5, f6, f7, f8, f9, f10, f11, f12, f13, f14, f15], hg2, hnx2, by rw [hP2, hkc, Nat.add_mul]; omega, hz2, hv2, hsp2⟩
    · have hir : i = rows := by omega
      have := hQ o nx z P hnx hg.sid (by rw [hP, hir]) (by
        rcases hz with h | h
        · right
          rcases hg with ⟨_, h0⟩ | ⟨h0, _⟩
          · exact List.eq_nil_of_length_eq_zero (by omega)
          · omega
        · exact .inl h) hv hsp
      simpa (disch := omega) [c16L2, c16R3, e1, e2, e3, e4, e5, e6, e7, e8, e9, e10, e11, e12, hk1, hnx, hr0] using this
  cases t
  · simp only [Bool.false_eq_true, if_false] at hnn hrows
    simp (disch := omega) [c16]
    refine key _ ⟨0, n, 1, ⟨0, 0, 0⟩, [], [], [.int .i64 0, .int .i64 0, .sl ⟨0, 0, 0⟩ 1 []], by omega, rfl, by simp [At, hnn, hrows], .inl ⟨rfl, rfl⟩, Nat.le_refl _, by simp, .inl rfl, fun q hq => by simp at hq, .inl ⟨rfl, rfl⟩⟩
  · simp only [if_true] at hnn hrows
    simp (disch := omega) [c16]
    refine key _ ⟨0, n, 1, ⟨0, 0, 0⟩, [], [], [.int .i64 0, .int .i64 0, .sl ⟨0, 0, 0⟩ 1 []], by omega, rfl, by simp [At, hnn, hrows], .inl ⟨rfl, rfl⟩, Nat.le_refl _, by simp, .inl rfl, fun q hq => by simp at hq, .inl ⟨rfl, rfl⟩⟩
end Go.Proofs.YtphndngifjgeoaaGreatDoor
