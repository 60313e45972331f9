/- Rows taken off others crosswise, as the document has it, by value. -/
import Derived.Test.YtcdkgeeookcoeaaExH
set_option linter.unusedVariables false
set_option linter.unusedSimpArgs false
namespace Go.Proofs.Ytcdkgeeookcoeaa
open Go.Proofs

/-- A number as it must be written, of any size. -/
structure ECan (n b : Nat) (e : Ent) : Prop where
  f : e.i.f < n
  s : e.n = decide (e.num < 0)
  l : e.l = dig e.num.natAbs
  z : sz e.num b
theorem EOk.can {n b : Nat} {e : Ent} (h : EOk n b e) : ECan n b e := ⟨h.f, h.is.1, h.is.2.1, h.is.2.2⟩
theorem ECan.mono {n n' b b' : Nat} {e : Ent} (h : ECan n b e) (hn : n ≤ n') (hb : b ≤ b') : ECan n' b' e := ⟨Nat.lt_of_lt_of_le h.f hn, h.s, h.l, h.z.mono hb⟩
def entZ (i : Sid) (z : Int) : Ent := ⟨decide (z < 0), i, dig z.natAbs⟩
@[simp] theorem entZ_num (i : Sid) (z : Int) : (entZ i z).num = z := numW_dig z
theorem entZ_can {n b : Nat} {i : Sid} {z : Int} (hi : i.f < n) (hz : sz z b) : ECan n b (entZ i z) := ⟨hi, by rw [entZ_num]; rfl, by rw [entZ_num]; rfl, by rw [entZ_num]; exact hz⟩
theorem len_num {n b : Nat} {e : Ent} (h : ECan n b e) : e.l.length = 0 ↔ e.num = 0 := by
  rw [h.l]
  constructor
  · intro h0
    have := dig_eq_nil.1 (List.eq_nil_of_length_eq_zero h0)
    omega
  · intro h0
    rw [h0]; simp [dig_zero]

def lessI (ia ib ix iy : Sid) (a b : List Ent) (x y : Int) (n : Nat) (k : Nat) (s : St) : Prop :=
  ∃ (j nx : Nat) (i : Sid) (o : List Ent), j + k = a.length ∧ At s 35 [[.bool (decide (x < 0)), .sl ix 1 (u32s (dig x.natAbs))], [.bool (decide (y < 0)), .sl iy 1 (u32s (dig y.natAbs))]] nx [(0, .sl ia 2 (a.map Ent.pv)), (2, .sl ib 2 (b.map Ent.pv)), (5, .box 0 0), (7, .box 1 0), (9, .sl i 2 (o.map Ent.pv)), (10, .int .i64 j)] ∧
    Grow s.tips n nx i (j * 2) ∧ n ≤ nx ∧ o.length = j ∧ ∀ q, q < j → ∃ e p r, o[q]? = some e ∧ a[q]? = some p ∧ b[q]? = some r ∧ e.num = p.num * x - r.num * y ∧ (∃ i', newSid n nx i' ∧ e = entZ i' (p.num * x - r.num * y))
theorem less_call {n : Nat} (hn : 0 < n) (ia ib ix iy : Sid) (a b : List Ent) (x y : Int) (m B : Nat) (hab : a.length = b.length) (hal : a.length < 1000000) (ha : ∀ e, e ∈ a → ECan m B e) (hb : ∀ e, e ∈ b → ECan m B e) (hx : sz x B) (hy : sz y B) (hB : B ≤ 400000) {Q : PV → Nat → List Nat → Prop}
    (hQ : ∀ (i : Sid) (n' : Nat) (o : List Ent), n ≤ n' → newSid n n' i → o.length = a.length → (∀ q, q < a.length → ∃ e p r, o[q]? = some e ∧ a[q]? = some p ∧ b[q]? = some r ∧ ∃ i', newSid n n' i' ∧ e = entZ i' (p.num * x - r.num * y)) → Q (.sl i 2 (o.map Ent.pv)) n' []) :
    PCall Try.prog 38 [.sl ia 2 (a.map Ent.pv), W (decide (x < 0)) ix (dig x.natAbs), .sl ib 2 (b.map Ent.pv), W (decide (y < 0)) iy (dig y.natAbs)] n Q := by
  refine of38 hn ?_
  simp (disch := omega) [c38]
  refine GO_loopN (lessI ia ib ix iy a b x y n) a.length ⟨0, n + 1, ⟨n, n, 0⟩, [], by omega, by simp [At], by simpa using Grow.fresh _ 0 (Nat.le_refl n) hn (Nat.lt_succ_self n), by omega, rfl, fun q hq => by omega⟩ ?_
  rintro k s ⟨j, nx, i, o, hj, ⟨e1, e2, e3, e4, e5⟩, hg, hnx, hol, ho⟩
  simp at e5
  obtain ⟨e5, e6, e7, e8, e9, e10⟩ := e5
  by_cases hk : j < a.length
  · have hkb : j < b.length := by omega
    obtain ⟨p, hp0⟩ : ∃ p, p = a[j] := ⟨_, rfl⟩
    obtain ⟨r, hr0⟩ : ∃ r, r = b[j] := ⟨_, rfl⟩
    obtain ⟨pf, ps, pl, pz⟩ := ha p (by rw [hp0]; exact List.getElem_mem _)
    obtain ⟨rf, rs, rl, rz⟩ := hb r (by rw [hr0]; exact List.getElem_mem _)
    simp (disch := omega) [c38L0, e1, e2, e3, e4, e5, e6, e7, e8, e9, e10, hk, hkb, ← hp0, ← hr0, ps, pl, rs, rl]
    refine CallK.of (by simp) (RMul_Z (by omega) p.num x (p.num * x) p.i ix B B pz hx (by omega) rfl fun i1 n1 g1 d1 => ?_)
    simp (disch := omega) [g1, e1, e2, e3, e4, e5, e6, e7, e8, e9, e10, hk, hkb, ← hp0, ← hr0, ps, pl, rs, rl]
    refine CallK.of (by simp) (RMul_Z (by omega) r.num y (r.num * y) r.i iy B B rz hy (by omega) rfl fun i2 n2 g2 d2 => ?_)
    obtain ⟨z, hz⟩ : ∃ z, z = p.num * x - r.num * y := ⟨_, rfl⟩
    simp (disch := omega) [g1, g2, e1, e2, e3, e4, e5, e6, e7, e8, e9, e10]
    refine CallK.of (by simp) (RSub_Z (by omega) (p.num * x) (r.num * y) z i1 i2 (B + B) (B + B) (pz.mul hx) (rz.mul hy) (by omega) hz.symm fun i3 n3 g3 d3 => ?_)
    simp (disch := omega) [g1, g2, g3, e1, e2, e3, e4, e5, e6, e7, e8, e9, e10]
    refine AppK_one (n := n) (nx := n3) (L := (j + 1) * 2) (by simp) ⟨s.tips, 2, by simp, ?_⟩ (by omega) hn (by simp [hol]; omega) (by omega) (by simp [hol]) fun tips i' h1 h2 h3 => ?_
    · simp only [List.length_map, hol]
      exact hg.mono (by omega)
    simp (disch := omega) [g1, g2, g3, e1, e2, e3, e4, e5, e6, e7, e8, e9, e10]
    have hpj : a[j]? = some p := by rw [List.getElem?_eq_getElem hk, hp0]
    have hrj : b[j]? = some r := by rw [List.getElem?_eq_getElem hkb, hr0]
    refine ⟨k - 1, by omega, j + 1, n3 + 2, i', o ++ [entZ i3 z], by omega, by simp [At, e1, e2, e3, e4, e5, e6, e7, e8, e9, e10, entZ], h3, by omega, by simp [hol], fun q hq => ?_⟩
    by_cases hqj : q = j
    · subst hqj
      exact ⟨entZ i3 z, p, r, by rw [← hol]; simp, hpj, hrj, by rw [entZ_num, hz], i3, (d3.mono (by omega)).le (by omega), by rw [hz]⟩
    · obtain ⟨e, p', r', t1, t2, t3, t4, i4, t5, t6⟩ := ho q (by omega)
      exact ⟨e, p', r', by rw [List.getElem?_append_left (by omega)]; exact t1, t2, t3, t4, i4, t5.mono (by omega), t6⟩
  · have hja : j = a.length := by omega
    subst hja
    have := hQ i nx o hnx hg.sid hol fun q hq => by
      obtain ⟨e, p', r', t1, t2, t3, t4, i4, t5, t6⟩ := ho q hq
      exact ⟨e, p', r', t1, t2, t3, i4, t5, t6⟩
    simpa (disch := omega) [c38L0, c38R0, e1, e2, e3, e4, e5, e6, e7, e8, e9, e10, hk, hnx] using this

/-! ### the first row that is not 0 in a column -/
def ZOk (n w b : Nat) (L : List Rw) : Prop := ∀ r, r ∈ L → r.i.f < n ∧ r.es.length = w ∧ ∀ e, e ∈ r.es → ECan n b e
theorem MxOk.z {n w b : Nat} {M : List Rw} (h : MxOk n w b M) : ZOk n w b M := fun r hr => ⟨(h r hr).f, (h r hr).w, fun e he => ((h r hr).e e he).can⟩
theorem ZOk.mono {n n' w b b' : Nat} {L : List Rw} (h : ZOk n w b L) (hn : n ≤ n') (hb : b ≤ b') : ZOk n' w b' L := fun r hr => ⟨Nat.lt_of_lt_of_le (h r hr).1 hn, (h r hr).2.1, fun e he => ((h r hr).2.2 e he).mono hn hb⟩
theorem Mf_get {L : List Rw} {i c : Nat} {r : Rw} {e : Ent} (hr : L[i]? = some r) (he : r.es[c]? = some e) : Mf L i c = e.num := by
  unfold Mf; rw [hr]; simp only [Rw.f, he]
def pivotI (i : Sid) (L : List Rw) (d c n : Nat) (k : Nat) (s : St) : Prop :=
  ∃ j : Nat, j + k = L.length ∧ d ≤ j ∧ At s 25 [] n [(0, .sl i 1 (L.map Rw.pv)), (2, .int .i64 c), (7, .int .i64 j)] ∧ ∀ q, d ≤ q → q < j → Mf L q c = 0
theorem pivot_call {n : Nat} (hn : 0 < n) (i : Sid) (L : List Rw) (d c w m b : Nat) (hL : ZOk m w b L) (hLl : L.length < 1000000) (hd : d ≤ L.length) (hc : c < w) (hw : w < 1000000) (hb : b < 1000000) {Q : PV → Nat → List Nat → Prop}
    (hQ1 : (∀ q, d ≤ q → q < L.length → Mf L q c = 0) → Q (.int .i64 (-1)) n []) (hQ2 : ∀ p : Nat, d ≤ p → p < L.length → Mf L p c ≠ 0 → Q (.int .i64 p) n []) : PCall Try.prog 36 [.sl i 1 (L.map Rw.pv), .int .i64 d, .int .i64 c] n Q := by
  refine of36 hn ?_
  simp (disch := omega) [c36]
  refine GO_loopN (pivotI i L d c n) (L.length - d) ⟨d, by omega, Nat.le_refl _, by simp [At], fun q h1 h2 => by omega⟩ ?_
  rintro k s ⟨j, hj, hdj, ⟨e1, e2, e3, e4, e5⟩, hr⟩
  simp at e5
  obtain ⟨e5, e6, e7⟩ := e5
  by_cases hk : j < L.length
  · obtain ⟨r, hr0⟩ : ∃ r, r = L[j] := ⟨_, rfl⟩
    obtain ⟨q1, q2, q3⟩ := hL r (by rw [hr0]; exact List.getElem_mem _)
    have hcr : c < r.es.length := by omega
    obtain ⟨e, he0⟩ : ∃ e, e = r.es[c] := ⟨_, rfl⟩
    have hec := q3 e (by rw [he0]; exact List.getElem_mem _)
    have hmf : Mf L j c = e.num := Mf_get (r := r) (e := e) (by rw [List.getElem?_eq_getElem hk, hr0]) (by rw [List.getElem?_eq_getElem hcr, he0])
    have hel : e.l.length < 35184372088800 := by rw [hec.l]; have := hec.z.len; omega
    simp (disch := omega) [c36L0, e1, e2, e3, e4, e5, e6, e7, hk, ← hr0, hcr, ← he0]
    refine CallK.of (by simp) (zero_call (by omega) e hel ?_)
    by_cases h0 : e.num = 0
    · simp (disch := omega) [(len_num hec).2 h0, e1, e2, e3, e4, e5, e6, e7]
      refine ⟨k - 1, by omega, j + 1, by omega, by omega, by simp [At, e1, e2, e3, e4, e5, e6, e7], fun q h1 h2 => ?_⟩
      by_cases hqj : q = j
      · subst hqj; rw [hmf]; exact h0
      · exact hr q h1 (by omega)
    · have hne : ¬ e.l.length = 0 := fun h => h0 ((len_num hec).1 h)
      have := hQ2 j hdj hk (by rw [hmf]; exact h0)
      simpa (disch := omega) [hne, e1, e2, e3, e4, e5, e6, e7] using this
  · have := hQ1 fun q h1 h2 => hr q h1 (by omega)
    simpa (disch := omega) [c36L0, c36R0, e1, e2, e3, e4, e5, e6, e7, hk] using this
end Go.Proofs.Ytcdkgeeookcoeaa
