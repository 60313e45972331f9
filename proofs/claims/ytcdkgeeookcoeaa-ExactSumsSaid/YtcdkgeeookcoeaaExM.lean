/- Whether the program of layer 3 answers at all, by value. -/
import Derived.Test.YtcdkgeeookcoeaaExL
set_option linter.unusedVariables false
set_option linter.unusedSimpArgs false
namespace Go.Proofs.Ytcdkgeeookcoeaa
open Go.Proofs

theorem mx_fits {n w b : Nat} {M : List Rw} (h : MxOk n w b M) (hM : M.length < 1000000) (hw : w < 1000000) (hb : b < 1000000) : Fits M :=
  ⟨by omega, fun r hr => ⟨by have := (h r hr).w; omega, fun e he => ⟨by have := ((h r hr).e e he).b; omega, ((h r hr).e e he).l⟩⟩⟩
theorem mx_width {n w b : Nat} {M : List Rw} (h : MxOk n w b M) (h0 : 0 < M.length) : widthR M = w := by
  rw [← width_get h0]; exact (h _ (List.getElem_mem _)).w
theorem mx_chk {n w b : Nat} {M : List Rw} (h : MxOk n w b M) (hM : M.length ≤ 6) (hw : w ≤ 6) (hb : b ≤ 80) : chk M = 0 := by
  have h1 : M.all (rowB (widthR M)) = true := by
    rw [List.all_eq_true]
    intro r hr
    have h0 : 0 < M.length := List.length_pos_of_mem hr
    rw [mx_width h h0]
    have := (h r hr).w
    simp [rowB]; omega
  have h2 : rightM M = true := by
    unfold rightM
    rw [List.all_eq_true]
    intro r hr
    rw [List.all_eq_true]
    exact fun e he => ((h r hr).e e he).r
  have h3 : lngM M = false := by
    unfold lngM
    rw [List.any_eq_false]
    intro r hr
    rw [Bool.not_eq_true, List.any_eq_false]
    intro e he
    have := ((h r hr).e e he).b
    simp [lngE]; omega
  rw [chk_end (by omega) h1 h2, h3]; rfl
theorem entZ_ok {n : Nat} {i : Sid} {z : Int} {b : Nat} (hi : i.f < n) (hz : sz z b) (hb : b ≤ 512) : EOk n b (entZ i z) := by
  have := hz.len
  exact ⟨hi, rightW_Z (by omega), Lim.dig _, this⟩

/-- What comes of two rows of two small numbers. -/
theorem small2 {n n' : Nat} (hn' : 0 < n') {T : List Rw} {i0 i1 : Sid} {a b c d : Int} (hT : T.length = 2) (h : ∀ q, q < 2 → ∃ (r : Rw) (x : Sw), T[q]? = some r ∧ [Sw.mk i0 [a, b], Sw.mk i1 [c, d]][q]? = some x ∧ newSid n n' r.i ∧ r.es.length = x.es.length ∧ ∀ p, p < x.es.length → ∃ (z : Int) (i' : Sid), x.es[p]? = some z ∧ newSid n n' i' ∧ r.es[p]? = some (entZ i' z)) :
    ∃ (r0 r1 : Rw) (j0 j1 j2 j3 : Sid), T = [r0, r1] ∧ newSid n n' r0.i ∧ newSid n n' r1.i ∧ newSid n n' j0 ∧ newSid n n' j1 ∧ newSid n n' j2 ∧ newSid n n' j3 ∧ r0.es = [entZ j0 a, entZ j1 b] ∧ r1.es = [entZ j2 c, entZ j3 d] := by
  match T, hT with
  | [r0, r1], _ =>
    obtain ⟨r, x, h1, h2, h3, h4, h5⟩ := h 0 (by omega)
    simp at h1 h2; subst h1; subst h2
    obtain ⟨z0, j0, a1, a2, a3⟩ := h5 0 (by simp)
    obtain ⟨z1, j1, b1, b2, b3⟩ := h5 1 (by simp)
    simp at a1 b1; subst a1; subst b1
    obtain ⟨r, x, g1, g2, g3, g4, g5⟩ := h 1 (by omega)
    simp at g1 g2; subst g1; subst g2
    obtain ⟨z2, j2, c1, c2, c3⟩ := g5 0 (by simp)
    obtain ⟨z3, j3, d1, d2, d3⟩ := g5 1 (by simp)
    simp at c1 d1; subst c1; subst d1
    refine ⟨r0, r1, j0, j1, j2, j3, rfl, h3, g3, a2, b2, c2, d2, ?_, ?_⟩
    · match hq : r0.es, h4 with
      | [x, y], _ => rw [hq] at a3 b3; simp at a3 b3; rw [a3, b3]
    · match hq : r1.es, g4 with
      | [x, y], _ => rw [hq] at c3 d3; simp at c3 d3; rw [c3, d3]
theorem small2_mx {n n' : Nat} (hn' : 0 < n') {r0 r1 : Rw} {j0 j1 j2 j3 : Sid} {a b c d : Int} (h0 : newSid n n' r0.i) (h1 : newSid n n' r1.i) (k0 : newSid n n' j0) (k1 : newSid n n' j1) (k2 : newSid n n' j2) (k3 : newSid n n' j3) (e0 : r0.es = [entZ j0 a, entZ j1 b]) (e1 : r1.es = [entZ j2 c, entZ j3 d])
    (ha : sz a 2 ∧ sz b 2 ∧ sz c 2 ∧ sz d 2) : MxOk n' 2 2 [r0, r1] := by
  intro r hr
  simp at hr
  rcases hr with rfl | rfl
  · refine ⟨newSid_lt h0 hn', by rw [e0]; rfl, fun e he => ?_⟩
    rw [e0] at he; simp at he
    rcases he with rfl | rfl
    · exact entZ_ok (newSid_lt k0 hn') ha.1 (by omega)
    · exact entZ_ok (newSid_lt k1 hn') ha.2.1 (by omega)
  · refine ⟨newSid_lt h1 hn', by rw [e1]; rfl, fun e he => ?_⟩
    rw [e1] at he; simp at he
    rcases he with rfl | rfl
    · exact entZ_ok (newSid_lt k2 hn') ha.2.2.1 (by omega)
    · exact entZ_ok (newSid_lt k3 hn') ha.2.2.2 (by omega)
theorem small2_det {r0 r1 : Rw} {j0 j1 j2 j3 : Sid} {a b c d : Int} (e0 : r0.es = [entZ j0 a, entZ j1 b]) (e1 : r1.es = [entZ j2 c, entZ j3 d]) : Dt ([r0, r1].map Rw.f) (List.range 2) = a * d - b * c := by
  have f0 : r0.f 0 = a ∧ r0.f 1 = b := by simp [Rw.f, e0]
  have f1 : r1.f 0 = c ∧ r1.f 1 = d := by simp [Rw.f, e1]
  have : List.range 2 = [0, 1] := rfl
  rw [this]
  simp [Dt, Sg, f0, f1]
theorem sz_small {z : Int} (h : z.natAbs < 18446744073709551616) : sz z 2 := by unfold sz; omega
theorem awakeE_call {n : Nat} (hn : 0 < n) {Q : PV → Nat → List Nat → Prop} (hQ : ∀ n', n ≤ n' → Q (.bool true) n' []) : PCall Try.prog 11 [] n Q := by
  refine of11 hn ?_
  have hS1 : ([PV.sl ⟨n, n, 0⟩ 1 [.int .i64 1, .int .i64 2], PV.sl ⟨n + 1, n + 1, 0⟩ 1 [.int .i64 3, .int .i64 4]] : List PV) = [Sw.mk ⟨n, n, 0⟩ [1, 2], Sw.mk ⟨n + 1, n + 1, 0⟩ [3, 4]].map Sw.pv := by simp [ints]
  simp (disch := omega) [c11]
  rw [hS1]
  refine CallK.of (by simp) (small_call (by omega) _ _ (by simp) (by simp) fun i1 n1 T g1 d1 hTl hT => ?_)
  obtain ⟨r0, r1, j0, j1, j2, j3, rfl, t1, t2, t3, t4, t5, t6, t7, t8⟩ := small2 (by omega) hTl hT
  have mx := small2_mx (by omega) t1 t2 t3 t4 t5 t6 t7 t8 ⟨sz_small (by decide), sz_small (by decide), sz_small (by decide), sz_small (by decide)⟩
  have hck := mx_chk mx (by simp) (by omega) (by omega)
  have hft := mx_fits mx (by simp) (by omega) (by omega)
  have hwd := mx_width mx (by simp)
  have hdt := small2_det t7 t8
  simp (disch := omega) [-List.map_cons, g1]
  refine CallK.of (by simp) (Det_ok (by omega) i1 [r0, r1] hft hck (by rw [hwd]; exact fun r hr => ⟨(mx r hr).f, (mx r hr).w, fun e he => ⟨((mx r hr).e e he).f, ((mx r hr).e e he).r, ((mx r hr).e e he).l, by have := ((mx r hr).e e he).b; omega⟩⟩) (fun _ => by rw [hwd]; rfl) fun i2 n2 g2 d2 => ?_)
  rw [show [r0, r1].length = 2 from rfl, hdt]
  clear hdt hwd hft hck mx t1 t2 t3 t4 t5 t6 t7 t8 hT hTl hS1
  have hS2 : ([PV.sl ⟨n2, n2, 0⟩ 1 [.int .i64 1, .int .i64 2], PV.sl ⟨n2 + 1, n2 + 1, 0⟩ 1 [.int .i64 2, .int .i64 4]] : List PV) = [Sw.mk ⟨n2, n2, 0⟩ [1, 2], Sw.mk ⟨n2 + 1, n2 + 1, 0⟩ [2, 4]].map Sw.pv := by simp [ints]
  simp (disch := omega) [g1, g2]
  rw [hS2]
  refine CallK.of (by simp) (small_call (by omega) _ _ (by simp) (by simp) fun i3 n3 T g3 d3 hTl hT => ?_)
  obtain ⟨r2, r3, j0, j1, j2, j3, rfl, t1, t2, t3, t4, t5, t6, t7, t8⟩ := small2 (by omega) hTl hT
  have mx := small2_mx (by omega) t1 t2 t3 t4 t5 t6 t7 t8 ⟨sz_small (by decide), sz_small (by decide), sz_small (by decide), sz_small (by decide)⟩
  have hck := mx_chk mx (by simp) (by omega) (by omega)
  have hft := mx_fits mx (by simp) (by omega) (by omega)
  have hwd := mx_width mx (by simp)
  have hdt := small2_det t7 t8
  simp (disch := omega) [-List.map_cons, g1, g2, g3]
  refine CallK.of (by simp) (Rank_ok (by omega) i3 [r2, r3] 2 hwd.symm hft hck (fun r hr => ⟨(mx r hr).f, (mx r hr).w, fun e he => ⟨((mx r hr).e e he).f, ((mx r hr).e e he).r, ((mx r hr).e e he).l, by have := ((mx r hr).e e he).b; omega⟩⟩) (by simp) (by omega) fun n4 b g4 hr hb6 => ?_)
  have hb : b = 1 := by
    have h1 := rank_le_rows hr
    have h2 : b ≠ 2 := fun h => by
      have := (rank_full (A := Mf [r2, r3]) (n := 2) (Mf_rows _ fun r hr => (mx r hr).w) hr).1 h
      have e := map_f [r2, r3]
      rw [show [r2, r3].length = 2 from rfl] at e
      rw [← e, hdt] at this
      omega
    have h3 : b ≠ 0 := fun h => by
      subst h
      have := hr.2 [Mf [r2, r3] 0] [0] rfl (fun r hr => by simp at hr; rw [hr]; exact mem_rowsOf.2 ⟨0, by simp, rfl⟩) rfl
      have f0 : r2.f 0 = 1 := by simp [Rw.f, t7]
      simp [Dt, Sg, Mf, f0] at this
    simp at h1
    omega
  subst hb
  simp (disch := omega) [g1, g2, g3, g4]
  refine CallK.of (by simp) (RefOf_call (by omega) (-2) (by omega) (by omega) fun i5 n5 g5 d5 => ?_)
  simp (disch := omega) [g1, g2, g3, g4, g5]
  refine CallK.of (by simp) (Same_call (by omega) _ _ _ _ _ _ (by have : (dig 2).length ≤ 2 := (sz_small (z := 2) (by decide)).len; omega) ?_)
  have := hQ n5 (by omega)
  simpa (disch := omega) [show n ≤ n5 by omega] using this
end Go.Proofs.Ytcdkgeeookcoeaa
