/- Rows turned into columns; rows of small numbers; whether the program answers at all: by value. -/
import Derived.Test.YtcdkgeeookcoeaaExK
set_option linter.unusedVariables false
set_option linter.unusedSimpArgs false
namespace Go.Proofs.Ytcdkgeeookcoeaa
open Go.Proofs

instance : Inhabited Ent := ⟨⟨false, ⟨0, 0, 0⟩, []⟩⟩
def colE (M : List Rw) (c : Nat) : List Ent := M.map fun r => r.es.getD c default
def turnI (i : Sid) (M : List Rw) (w n : Nat) (k : Nat) (s : St) : Prop :=
  ∃ (c nx : Nat) (o : Sid) (T : List Rw), c + k = w ∧ At s 36 [] nx [(0, .sl i 1 (M.map Rw.pv)), (3, .sl o 1 (T.map Rw.pv)), (4, .int .i64 c)] ∧ Grow s.tips n nx o c ∧ n ≤ nx ∧ T.length = c ∧ ∀ q, q < c → ∃ i', newSid n nx i' ∧ T[q]? = some ⟨i', colE M q⟩
def turnJ (i : Sid) (M T : List Rw) (o : Sid) (n nx0 c : Nat) (k : Nat) (s : St) : Prop :=
  ∃ (j nx : Nat) (oc : Sid), j + k = M.length ∧ At s 36 [] nx [(0, .sl i 1 (M.map Rw.pv)), (3, .sl o 1 (T.map Rw.pv)), (4, .int .i64 c), (5, .sl oc 2 ((colE (M.take j) c).map Ent.pv)), (6, .int .i64 j)] ∧ Grow s.tips n nx oc (j * 2) ∧ Grow s.tips n nx o c ∧ nx0 ≤ oc.g ∧ nx0 < nx
theorem Turned_call {n : Nat} (hn : 0 < n) (i : Sid) (M : List Rw) (w : Nat) (hw0 : w = widthR M) (hM : ∀ r, r ∈ M → r.es.length = w) (hMl : M.length < 1000000) (hw : w < 1000000) {Q : PV → Nat → List Nat → Prop}
    (hQ : ∀ (i : Sid) (n' : Nat) (T : List Rw), n ≤ n' → newSid n n' i → T.length = w → (∀ q, q < w → ∃ i', newSid n n' i' ∧ T[q]? = some ⟨i', colE M q⟩) → Q (.sl i 1 (T.map Rw.pv)) n' []) : PCall Try.prog 19 [.sl i 1 (M.map Rw.pv)] n Q := by
  refine of19 hn ?_
  simp (disch := omega) [c19]
  refine GO_loopN (turnI i M w n) w ⟨0, n + 1, ⟨n, n, 0⟩, [], by omega, by simp [At], by simpa using Grow.fresh _ 0 (Nat.le_refl n) hn (Nat.lt_succ_self n), by omega, rfl, fun q hq => by omega⟩ ?_
  rintro k s ⟨c, nx, o, T, hc, ⟨e1, e2, e3, e4, e5⟩, hg, hnx, hTl, hT⟩
  simp at e5
  obtain ⟨e5, e6, e7⟩ := e5
  by_cases hk : c < w
  · simp (disch := omega) [c19L1, e1, e2, e3, e4, e5, e6, e7]
    refine CallK.of (by simp) (RefWidth_call (by omega) i M (by omega) (by omega) ?_)
    rw [← hw0]
    simp (disch := omega) [e1, e2, e3, e4, e5, e6, e7, hk]
    refine GO_loopN (turnJ i M T o n nx c) M.length ⟨0, nx + 1, ⟨nx, nx, 0⟩, by omega, by simp [At, e1, e2, e3, e4, e5, e6, e7, colE], ?_, ?_, Nat.le_refl _, by omega⟩ ?_
    · simp only [put_tips', fresh_tips, after_nil_tips, put_next', after_nil_next, e3]
      exact Grow.fresh _ 0 hnx (by omega) (by omega)
    · simp only [put_tips', fresh_tips, after_nil_tips, put_next', after_nil_next, e3]
      exact (hg.cons (Nat.le_refl _)).mono (by omega)
    rintro k2 s2 ⟨j, nx2, oc, hj, ⟨f1, f2, f3, f4, f5⟩, hg1, hg2, hoc, hnx2⟩
    simp at f5
    obtain ⟨f5, f6, f7, f8, f9⟩ := f5
    have hog : o.g = 0 ∨ o.g ≠ oc.g := by
      rcases hg with ⟨h, _⟩ | ⟨_, _, _, _, _, h⟩
      · left; rw [h]
      · right; omega
    have hol : oc.g = 0 ∨ o.g < nx := by
      rcases hg with ⟨h, _⟩ | ⟨_, _, _, _, _, h⟩
      · right; rw [h]; show 0 < nx; omega
      · exact .inr h
    by_cases hk2 : j < M.length
    · obtain ⟨r, hr0⟩ : ∃ r, r = M[j] := ⟨_, rfl⟩
      have hrw : c < r.es.length := by rw [hM r (by rw [hr0]; exact List.getElem_mem _)]; exact hk
      obtain ⟨e, he0⟩ : ∃ e, e = r.es[c] := ⟨_, rfl⟩
      have hcl : (colE (M.take j) c).length = j := by simp [colE]; omega
      simp (disch := omega) [c19L0, f1, f2, f3, f4, f5, f6, f7, f8, f9, hk2, ← hr0, hrw, ← he0]
      refine AppK_two (n := n) (nx := nx2) (L := (j + 1) * 2) (tips0 := s2.tips) (T := 2) (by simp [f3]) (by simp [f3]) (by simp only [List.length_map, hcl]; exact hg1) (by omega) hn (by simp [hcl]; omega) (by omega) (by simp [hcl]) fun tips i' h1 h2 h3 h4 => ?_
      simp (disch := omega) [f1, f2, f3, f4, f5, f6, f7, f8, f9]
      have hce : colE (M.take (j + 1)) c = colE (M.take j) c ++ [e] := by
        unfold colE
        rw [List.take_add_one, List.getElem?_eq_getElem hk2, ← hr0]
        simp [List.getD, hrw, he0]
      exact ⟨k2 - 1, by omega, j + 1, nx2 + 2, i', by omega, by simp [At, f1, f2, f3, f4, f5, f6, f7, f8, f9, hce], h3, h4 o c hg2 hog, by omega, by omega⟩
    · have hjM : j = M.length := by omega
      subst hjM
      rw [List.take_length] at f8
      simp (disch := omega) [c19L0, c19R0, c19R1, f1, f2, f3, f4, f5, f6, f7, f8, f9]
      refine AppK_two (n := n) (nx := nx2) (L := c + 1) (tips0 := s2.tips) (T := 1) (by simp [f3]) (by simp [f3]) (by simp only [List.length_map, hTl, Nat.mul_one]; exact hg2) (by omega) hn (by simp [hTl]; omega) (by omega) (by simp [hTl]) fun tips i' h1 h2 h3 h4 => ?_
      simp (disch := omega) [f1, f2, f3, f4, f5, f6, f7, f8, f9]
      refine ⟨k - 1, by omega, c + 1, nx2 + 2, i', T ++ [⟨oc, colE M c⟩], by omega, by simp [At, f1, f2, f3, f4, f5, f6, f7, f8, f9], h3, by omega, by simp [hTl], fun q hq => ?_⟩
      by_cases hqc : q = c
      · subst hqc
        exact ⟨oc, hg1.sid.mono (by omega), by rw [← hTl]; simp⟩
      · obtain ⟨i'', t1, t2⟩ := hT q (by omega)
        exact ⟨i'', t1.mono (by omega), by rw [List.getElem?_append_left (by omega)]; exact t2⟩
  · have hcw : c = w := by omega
    have := hQ o nx T hnx hg.sid (by omega) fun q hq => hT q (by omega)
    simp (disch := omega) [c19L1, e1, e2, e3, e4, e5, e6, e7]
    refine CallK.of (by simp) (RefWidth_call (by omega) i M (by omega) (by omega) ?_)
    rw [← hw0]
    simpa (disch := omega) [c19R2, e1, e2, e3, e4, e5, e6, e7, hk, hnx] using this

/-! ### rows of small numbers -/
structure Sw where
  i : Sid
  es : List Int
@[simp] def Sw.pv (r : Sw) : PV := .sl r.i 1 (ints r.es)
def smallI (i : Sid) (S : List Sw) (n : Nat) (k : Nat) (s : St) : Prop :=
  ∃ (c nx : Nat) (o : Sid) (T : List Rw), c + k = S.length ∧ At s 40 [] nx [(0, .sl i 1 (S.map Sw.pv)), (3, .sl o 1 (T.map Rw.pv)), (4, .int .i64 c)] ∧ Grow s.tips n nx o c ∧ n ≤ nx ∧ T.length = c ∧ ∀ q, q < c → ∃ (r : Rw) (x : Sw), T[q]? = some r ∧ S[q]? = some x ∧ newSid n nx r.i ∧ r.es.length = x.es.length ∧ ∀ p, p < x.es.length → ∃ (z : Int) (i' : Sid), x.es[p]? = some z ∧ newSid n nx i' ∧ r.es[p]? = some (entZ i' z)
def smallJ (i : Sid) (S : List Sw) (x : Sw) (T : List Rw) (o : Sid) (n nx0 c : Nat) (k : Nat) (s : St) : Prop :=
  ∃ (j nx : Nat) (oc : Sid) (es : List Ent), j + k = x.es.length ∧ At s 40 [] nx [(0, .sl i 1 (S.map Sw.pv)), (3, .sl o 1 (T.map Rw.pv)), (4, .int .i64 c), (5, .sl oc 2 (es.map Ent.pv)), (6, .int .i64 j)] ∧ Grow s.tips n nx oc (j * 2) ∧ Grow s.tips n nx o c ∧ nx0 ≤ oc.g ∧ nx0 < nx ∧ es.length = j ∧ ∀ p, p < j → ∃ (z : Int) (i' : Sid), x.es[p]? = some z ∧ newSid n nx i' ∧ es[p]? = some (entZ i' z)
theorem small_call {n : Nat} (hn : 0 < n) (i : Sid) (S : List Sw) (hSl : S.length < 1000000) (hS : ∀ x, x ∈ S → x.es.length < 1000000 ∧ ∀ z, z ∈ x.es → -9223372036854775808 ≤ z ∧ z < 9223372036854775808) {Q : PV → Nat → List Nat → Prop}
    (hQ : ∀ (i : Sid) (n' : Nat) (T : List Rw), n ≤ n' → newSid n n' i → T.length = S.length → (∀ q, q < S.length → ∃ (r : Rw) (x : Sw), T[q]? = some r ∧ S[q]? = some x ∧ newSid n n' r.i ∧ r.es.length = x.es.length ∧ ∀ p, p < x.es.length → ∃ (z : Int) (i' : Sid), x.es[p]? = some z ∧ newSid n n' i' ∧ r.es[p]? = some (entZ i' z)) → Q (.sl i 1 (T.map Rw.pv)) n' []) : PCall Try.prog 29 [.sl i 1 (S.map Sw.pv)] n Q := by
  refine of29 hn ?_
  simp (disch := omega) [c29]
  refine GO_loopN (smallI i S n) S.length ⟨0, n + 1, ⟨n, n, 0⟩, [], by omega, by simp [At], by simpa using Grow.fresh _ 0 (Nat.le_refl n) hn (Nat.lt_succ_self n), by omega, rfl, fun q hq => by omega⟩ ?_
  rintro k s ⟨c, nx, o, T, hc, ⟨e1, e2, e3, e4, e5⟩, hg, hnx, hTl, hT⟩
  simp at e5
  obtain ⟨e5, e6, e7⟩ := e5
  by_cases hk : c < S.length
  · obtain ⟨x, hx0⟩ : ∃ x, x = S[c] := ⟨_, rfl⟩
    obtain ⟨hxl, hxz⟩ := hS x (by rw [hx0]; exact List.getElem_mem _)
    have hgx : S[c]? = some x := by rw [List.getElem?_eq_getElem hk, hx0]
    simp (disch := omega) [c29L1, e1, e2, e3, e4, e5, e6, e7, hk]
    refine GO_loopN (smallJ i S x T o n nx c) x.es.length ⟨0, nx + 1, ⟨nx, nx, 0⟩, [], by omega, by simp [At, e1, e2, e3, e4, e5, e6, e7], ?_, ?_, Nat.le_refl _, by omega, rfl, fun q hq => by omega⟩ ?_
    · simp only [put_tips', fresh_tips, put_next', e3]
      exact Grow.fresh _ 0 hnx (by omega) (by omega)
    · simp only [put_tips', fresh_tips, put_next', e3]
      exact (hg.cons (Nat.le_refl _)).mono (by omega)
    rintro k2 s2 ⟨j, nx2, oc, es, hj, ⟨f1, f2, f3, f4, f5⟩, hg1, hg2, hoc, hnx2, hel, hes⟩
    simp at f5
    obtain ⟨f5, f6, f7, f8, f9⟩ := f5
    have hog : o.g = 0 ∨ o.g ≠ oc.g := by
      rcases hg with ⟨h, _⟩ | ⟨_, _, _, _, _, h⟩
      · left; rw [h]
      · right; omega
    by_cases hk2 : j < x.es.length
    · obtain ⟨z, hz0⟩ : ∃ z, z = x.es[j] := ⟨_, rfl⟩
      obtain ⟨z1, z2⟩ := hxz z (by rw [hz0]; exact List.getElem_mem _)
      simp (disch := omega) [c29L0, f1, f2, f3, f4, f5, f6, f7, f8, f9, hk, ← hx0, hk2, ← hz0]
      refine CallK.of (by simp) (RefOf_call (by omega) z z1 z2 fun i3 n3 g3 d3 => ?_)
      simp (disch := omega) [g3, f1, f2, f3, f4, f5, f6, f7, f8, f9]
      refine AppK_two (n := n) (nx := n3) (L := (j + 1) * 2) (tips0 := s2.tips) (T := 2) (by simp) (by simp) (by simp only [List.length_map, hel]; exact hg1.mono (by omega)) (by omega) hn (by simp [hel]; omega) (by omega) (by simp [hel]) fun tips i' h1 h2 h3 h4 => ?_
      simp (disch := omega) [g3, f1, f2, f3, f4, f5, f6, f7, f8, f9]
      refine ⟨k2 - 1, by omega, j + 1, n3 + 2, i', es ++ [entZ i3 z], by omega, by simp [At, f1, f2, f3, f4, f5, f6, f7, f8, f9, entZ], h3, h4 o c (hg2.mono (by omega)) hog, by omega, by omega, by simp [hel], fun p hp => ?_⟩
      by_cases hpj : p = j
      · subst hpj
        exact ⟨z, i3, by rw [List.getElem?_eq_getElem hk2, hz0], (d3.mono (by omega)).le (by omega), by rw [← hel]; simp⟩
      · obtain ⟨z', i', t1, t2, t3⟩ := hes p (by omega)
        exact ⟨z', i', t1, t2.mono (by omega), by rw [List.getElem?_append_left (by omega)]; exact t3⟩
    · have hjx : j = x.es.length := by omega
      simp (disch := omega) [c29L0, c29R0, c29R1, f1, f2, f3, f4, f5, f6, f7, f8, f9, hk, ← hx0, hk2]
      refine AppK_two (n := n) (nx := nx2) (L := c + 1) (tips0 := s2.tips) (T := 1) (by simp [f3]) (by simp [f3]) (by simp only [List.length_map, hTl, Nat.mul_one]; exact hg2) (by omega) hn (by simp [hTl]; omega) (by omega) (by simp [hTl]) fun tips i' h1 h2 h3 h4 => ?_
      simp (disch := omega) [f1, f2, f3, f4, f5, f6, f7, f8, f9]
      refine ⟨k - 1, by omega, c + 1, nx2 + 2, i', T ++ [⟨oc, es⟩], by omega, by simp [At, f1, f2, f3, f4, f5, f6, f7, f8, f9], h3, by omega, by simp [hTl], fun q hq => ?_⟩
      by_cases hqc : q = c
      · subst hqc
        refine ⟨⟨oc, es⟩, x, by rw [← hTl]; simp, hgx, hg1.sid.mono (by omega), by show es.length = _; omega, fun p hp => ?_⟩
        obtain ⟨z', i', t1, t2, t3⟩ := hes p (by omega)
        exact ⟨z', i', t1, t2.mono (by omega), t3⟩
      · obtain ⟨r, x', t1, t2, t3, t4, t5⟩ := hT q (by omega)
        refine ⟨r, x', by rw [List.getElem?_append_left (by omega)]; exact t1, t2, t3.mono (by omega), t4, fun p hp => ?_⟩
        obtain ⟨z', i', u1, u2, u3⟩ := t5 p hp
        exact ⟨z', i', u1, u2.mono (by omega), u3⟩
  · have hcw : c = S.length := by omega
    have := hQ o nx T hnx hg.sid (by omega) fun q hq => hT q (by omega)
    simpa (disch := omega) [c29L1, c29R2, e1, e2, e3, e4, e5, e6, e7, hk, hnx] using this
end Go.Proofs.Ytcdkgeeookcoeaa
