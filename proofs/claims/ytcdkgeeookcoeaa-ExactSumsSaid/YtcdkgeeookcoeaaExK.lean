/- The document's rank, by value. -/
import Derived.Test.YtcdkgeeookcoeaaExJ
import Derived.Test.YtcdkgeeookcoeaaExI
set_option linter.unusedVariables false
set_option linter.unusedSimpArgs false
namespace Go.Proofs.Ytcdkgeeookcoeaa
open Go.Proofs

/-! ### rows behind a store to a slice of rows -/
def Clean (f : Nat) (r : Rw) : Prop := r.i.f ≠ f ∧ ∀ e, e ∈ r.es → e.i.f ≠ f
theorem poisonL_ents {f : Nat} : ∀ {l : List Ent}, (∀ e, e ∈ l → e.i.f ≠ f) → PV.poisonL [f] (l.map Ent.pv) = l.map Ent.pv
  | [], _ => by simp
  | e :: l, h => by
    have h0 := h e (by simp)
    have ih := poisonL_ents (l := l) fun e he => h e (by simp [he])
    simp only [List.map_cons, poisonL_cons', ih, Ent.pv, poison_agg_s, poisonL_nil', poison_bool]
    rw [poison_sl _ _ _ _ (by simpa using h0)]
theorem poison_row {f : Nat} {r : Rw} (h : Clean f r) : (PV.sl r.i 2 (r.es.map Ent.pv)).poison [f] = .sl r.i 2 (r.es.map Ent.pv) := by
  unfold PV.poison
  rw [if_neg (by simpa using h.1), poisonL_ents h.2]
theorem poisonL_rows {f : Nat} : ∀ {L : List Rw}, (∀ r, r ∈ L → Clean f r) → PV.poisonL [f] (L.map Rw.pv) = L.map Rw.pv
  | [], _ => by simp
  | r :: L, h => by
    simp only [List.map_cons, poisonL_cons', Rw.pv, poison_row (h r (by simp))]
    rw [poisonL_rows fun r hr => h r (by simp [hr])]
theorem upd_rows_other {i i' : Sid} {z j c : Nat} {vs : List PV} {L : List Rw} (hi : i'.f ≠ i.f) (h : ∀ r, r ∈ L → Clean i.f r) : PV.upd i z j c vs (.sl i' 1 (L.map Rw.pv)) = .sl i' 1 (L.map Rw.pv) := by
  have : ¬ (i' = i ∧ 1 = z) := fun e => hi (by rw [e.1])
  unfold PV.upd
  rw [if_neg this]
  unfold PV.poison
  rw [if_neg (by simpa using hi), poisonL_rows h]
theorem modify_rows (L : List Rw) (j : Nat) (r : Rw) : (L.map Rw.pv).modify j (fun e => e.withCells 0 [PV.sl r.i 2 (r.es.map Ent.pv)]) = (L.set j r).map Rw.pv := by
  induction L generalizing j with
  | nil => simp
  | cons q L ih =>
    cases j with
    | zero => simp [PV.withCells]
    | succ j => simp [ih]
theorem upd_rows_same {i : Sid} {j : Nat} {L : List Rw} {r : Rw} (h : ∀ r, r ∈ L → Clean i.f r) : PV.upd i 1 j 0 [PV.sl r.i 2 (r.es.map Ent.pv)] (.sl i 1 (L.map Rw.pv)) = .sl i 1 ((L.set j r).map Rw.pv) := by
  unfold PV.upd
  rw [if_pos ⟨rfl, rfl⟩, poisonL_rows h, modify_rows]
theorem clean_of {n w b f : Nat} {L : List Rw} (h : ZOk n w b L) (hf : n ≤ f) : ∀ r, r ∈ L → Clean f r := fun r hr => ⟨by have := (h r hr).1; omega, fun e he => by have := ((h r hr).2.2 e he).f; omega⟩

/-- A size behind c columns. -/
def bnd (b : Nat) : Nat → Nat
  | 0 => b
  | c + 1 => 2 * bnd b c + 1
theorem bnd_le (b : Nat) : ∀ c, bnd b c + 1 ≤ (b + 1) * 2 ^ c
  | 0 => by simp [bnd]
  | c + 1 => by have := bnd_le b c; simp only [bnd, Nat.pow_succ]; rw [← Nat.mul_assoc]; omega
theorem Mf_set {L : List Rw} {j : Nat} {r : Rw} (hj : j < L.length) : Mf (L.set j r) = fun i => if i = j then r.f else Mf L i := by
  funext i
  unfold Mf
  by_cases h : i = j
  · subst h; simp [hj]
  · simp [List.getElem?_set, h, Ne.symm h]

def relI (i il : Sid) (M L N : List Rw) (w d c p n nx0 b B : Nat) (k : Nat) (s : St) : Prop :=
  ∃ (j nx : Nat) (N' : List Rw), j + k = N.length ∧ d < j ∧ At s 88 [] nx [(0, .sl i 1 (M.map Rw.pv)), (3, .sl il 1 (L.map Rw.pv)), (4, .int .i64 d), (5, .int .i64 c), (7, .sl ⟨nx0, nx0 + 1, 0⟩ 1 (N'.map Rw.pv)), (8, .int .i64 j)] ∧ s.n0 = n ∧ nx0 + 2 ≤ nx ∧ N'.length = N.length ∧ ZOk nx w B N' ∧ (∀ r, r ∈ N' → Clean nx0 r) ∧
    (∀ q, q < j → Mf N' q = elimF (Mf N) d c q) ∧ (∀ q, q ≤ d ∨ j ≤ q → N'[q]? = N[q]?)
def rnkI (i : Sid) (M : List Rw) (w n b : Nat) (k : Nat) (s : St) : Prop :=
  ∃ (c d nx : Nat) (il : Sid) (L : List Rw), c + k = w ∧ At s 88 [] nx [(0, .sl i 1 (M.map Rw.pv)), (3, .sl il 1 (L.map Rw.pv)), (4, .int .i64 d), (5, .int .i64 c)] ∧ s.n0 = n ∧ n ≤ nx ∧ il.f < nx ∧ L.length = M.length ∧ ZOk nx w (bnd b c) L ∧ Stairs (Mf L) M.length d c ∧
    ∀ r, IsRank (rowsOf M.length (Mf L)) r → IsRank (rowsOf M.length (Mf M)) r
set_option maxHeartbeats 1000000 in
theorem RefRank_call {n : Nat} (hn : 0 < n) (i : Sid) (hi : i.f < n) (M : List Rw) (w b : Nat) (hw0 : w = widthR M) (hM : ZOk n w b M) (hMl : M.length ≤ 6) (hw : w ≤ 6) (hb : b ≤ 1000) {Q : PV → Nat → List Nat → Prop}
    (hQ : ∀ (n' d : Nat), n ≤ n' → IsRank (rowsOf M.length (Mf M)) d → Q (.int .i64 d) n' []) : PCall Try.prog 18 [.sl i 1 (M.map Rw.pv)] n Q := by
  have hbl : ∀ c, c ≤ 6 → bnd b c ≤ 64064 := fun c hc => by
    have h1 := bnd_le b c
    have h2 : 2 ^ c ≤ 64 := Nat.pow_le_pow_right (n := 2) (by omega) hc
    have h3 := Nat.mul_le_mul_left (b + 1) h2
    omega
  refine of18 hn ?_
  simp (disch := omega) [c18]
  rw [AppK_gen (by omega)]
  refine ⟨by simp; omega, .inl rfl, by simp, ?_⟩
  simp (disch := omega) []
  refine GO_loopN (rnkI i M w n b) w ⟨0, 0, n + 2, ⟨n, n + 1, 0⟩, M, by omega, by simp [At], by simp, by omega, by show n < n + 2; omega, rfl, hM.mono (by omega) (Nat.le_refl _), Stairs.zero _ _, fun r h => h⟩ ?_
  rintro k s ⟨c, d, nx, il, L, hc, ⟨e1, e2, e3, e4, e5⟩, e0, hnx, hil, hLl, hL, hSt, hRk⟩
  simp at e5
  obtain ⟨e5, e6, e7, e8⟩ := e5
  have hwM : widthR M = w := hw0.symm
  have hdn := hSt.dn
  by_cases hk : c < w
  · have hB := hbl c (by omega)
    simp (disch := omega) [c18L1, e1, e2, e3, e4, e5, e6, e7, e8]
    refine CallK.of (by simp) (RefWidth_call (by omega) i M (by omega) (by omega) ?_)
    rw [hwM]
    simp (disch := omega) [e1, e2, e3, e4, e5, e6, e7, e8, hk]
    refine CallK.of (by simp) (pivot_call (by omega) il L d c w nx (bnd b c) hL (by omega) (by omega) hk (by omega) (by omega) (fun hz => ?_) (fun p hp1 hp2 hp3 => ?_))
    · simp (disch := omega) [c18R1, e1, e2, e3, e4, e5, e6, e7, e8]
      refine ⟨k - 1, by omega, c + 1, d, nx, il, L, by omega, by simp [At, e1, e2, e3, e4, e5, e6, e7, e8], by simp [e0], hnx, hil, hLl, hL.mono (Nat.le_refl _) (by simp only [bnd]; omega), hSt.skip fun i h1 h2 => hz i h1 (by omega), hRk⟩
    · simp (disch := omega) [e1, e2, e3, e4, e5, e6, e7, e8]
      rw [AppK_gen (by omega)]
      refine ⟨by simp; omega, .inl rfl, by simp, ?_⟩
      have hdL : d < L.length := by omega
      have hpL : p < L.length := by omega
      obtain ⟨rp, hrp⟩ : ∃ r, r = L[p] := ⟨_, rfl⟩
      obtain ⟨rd, hrd⟩ : ∃ r, r = L[d] := ⟨_, rfl⟩
      have hcl := clean_of hL (Nat.le_refl nx)
      have hclM := clean_of hM hnx
      have hzp := hL rp (by rw [hrp]; exact List.getElem_mem _)
      have hzd := hL rd (by rw [hrd]; exact List.getElem_mem _)
      have hcp := hcl rp (by rw [hrp]; exact List.getElem_mem _)
      have hcd := hcl rd (by rw [hrd]; exact List.getElem_mem _)
      have hpp : PV.poisonL [nx] [PV.sl rp.i 2 (rp.es.map Ent.pv)] = [PV.sl rp.i 2 (rp.es.map Ent.pv)] := by simp only [poisonL_cons', poison_row hcp, poisonL_nil']
      have hpd : PV.poisonL [nx] [PV.sl rd.i 2 (rd.es.map Ent.pv)] = [PV.sl rd.i 2 (rd.es.map Ent.pv)] := by simp only [poisonL_cons', poison_row hcd, poisonL_nil']
      have huM : ∀ j vs, PV.upd ⟨nx, nx + 1, 0⟩ 1 j 0 vs (.sl i 1 (M.map Rw.pv)) = .sl i 1 (M.map Rw.pv) := fun j vs => upd_rows_other (by show i.f ≠ nx; omega) hclM
      have huL : ∀ j vs, PV.upd ⟨nx, nx + 1, 0⟩ 1 j 0 vs (.sl il 1 (L.map Rw.pv)) = .sl il 1 (L.map Rw.pv) := fun j vs => upd_rows_other (by show il.f ≠ nx; omega) hcl
      obtain ⟨N1, hN1⟩ : ∃ N1, N1 = L.set d rp := ⟨_, rfl⟩
      have hu1 : PV.upd ⟨nx, nx + 1, 0⟩ 1 d 0 [PV.sl rp.i 2 (rp.es.map Ent.pv)] (.sl ⟨nx, nx + 1, 0⟩ 1 (L.map Rw.pv)) = .sl ⟨nx, nx + 1, 0⟩ 1 (N1.map Rw.pv) := by rw [hN1]; exact upd_rows_same hcl
      have hcl1 : ∀ r, r ∈ N1 → Clean nx r := fun r hr => by
        rw [hN1] at hr
        rcases List.mem_or_eq_of_mem_set hr with h | h
        · exact hcl r h
        · exact h ▸ hcp
      have hu2 : PV.upd ⟨nx, nx + 1, 0⟩ 1 p 0 [PV.sl rd.i 2 (rd.es.map Ent.pv)] (.sl ⟨nx, nx + 1, 0⟩ 1 (N1.map Rw.pv)) = .sl ⟨nx, nx + 1, 0⟩ 1 ((N1.set p rd).map Rw.pv) := upd_rows_same hcl1
      obtain ⟨N, hN⟩ : ∃ N, N = N1.set p rd := ⟨_, rfl⟩
      rw [← hN] at hu2
      have hN1l : N1.length = L.length := by rw [hN1]; simp
      have hpN1 : p < N1.length := by omega
      rw [hN1] at hN
      have hNl : N.length = L.length := by rw [hN]; simp
      have hNz : ZOk nx w (bnd b c) N := fun r hr => by
        rw [hN] at hr
        rcases List.mem_or_eq_of_mem_set hr with h | h
        · rcases List.mem_or_eq_of_mem_set h with h | h
          · exact hL r h
          · exact h ▸ hzp
        · exact h ▸ hzd
      have hNc : ∀ r, r ∈ N → Clean nx r := clean_of hNz (Nat.le_refl _)
      have hrdf : rd.f = Mf L d := by unfold Mf; rw [List.getElem?_eq_getElem hdL, ← hrd]
      have hrpf : rp.f = Mf L p := by unfold Mf; rw [List.getElem?_eq_getElem hpL, ← hrp]
      have hNf : Mf N = swapF (Mf L) d p := by
        rw [hN, Mf_set (by simpa using hpL), Mf_set hdL]
        funext q
        unfold swapF
        show (if q = p then rd.f else (if q = d then rp.f else Mf L q)) = _
        by_cases h1 : q = p
        · by_cases h2 : q = d
          · rw [if_pos h1, if_pos h2, hrdf, ← h2, h1]
          · rw [if_pos h1, if_neg h2, if_pos h1, hrdf]
        · by_cases h2 : q = d
          · rw [if_neg h1, if_pos h2, if_pos h2, hrpf]
          · rw [if_neg h1, if_neg h2, if_neg h2, if_neg h1]
      have hn0 : ¬ nx < n := by omega
      simp (disch := omega) [e1, e2, e3, e4, e5, e6, e7, e8, e0, hdL, hpL, ← hrp, ← hrd, hpp, hpd, huM, huL, hu1, hu2, hn0, hN1l]
      refine ⟨by omega, ?_⟩
      have hel0 : elimF (Mf N) d c d = Mf N d := by unfold elimF; rw [if_neg (by omega)]
      refine GO_loopN (relI i il M L N w d c p n nx b (bnd b (c + 1))) (N.length - (d + 1)) ⟨d + 1, nx + 2, N, by omega, by omega, by simp [At, e0, e1, e2, e3, e4, e5, e6, e7, e8, huM, huL, hu1, hu2, hn0], by simp [e0], by omega, rfl, hNz.mono (by omega) (by simp only [bnd]; omega), hNc, fun q hq => ?_, fun q _ => rfl⟩ ?_
      · unfold elimF; rw [if_neg (by omega)]
      rintro k2 s2 ⟨j, nx2, N', hjk, hdj, ⟨f1, f2, f3, f4, f5⟩, f0, hnx2, hNl', hNz', hNc', hlow, hhigh⟩
      simp at f5
      obtain ⟨f5, f6, f7, f8, f9, f10⟩ := f5
      by_cases hk2 : j < N.length
      · have hjN : j < N'.length := by omega
        have hdN : d < N'.length := by omega
        obtain ⟨rj, hrj⟩ : ∃ r, r = N'[j] := ⟨_, rfl⟩
        obtain ⟨rd', hrd'⟩ : ∃ r, r = N'[d] := ⟨_, rfl⟩
        obtain ⟨zj1, zj2, zj3⟩ := (hNz.mono (n' := nx2) (by omega) (Nat.le_refl _)) rj (by have := hhigh j (.inr (Nat.le_refl _)); rw [List.getElem?_eq_getElem hjN, ← hrj] at this; exact List.mem_of_getElem? this.symm)
        obtain ⟨zd1, zd2, zd3⟩ := (hNz.mono (n' := nx2) (by omega) (Nat.le_refl _)) rd' (by have := hhigh d (.inl (Nat.le_refl _)); rw [List.getElem?_eq_getElem hdN, ← hrd'] at this; exact List.mem_of_getElem? this.symm)
        have hcj : c < rj.es.length := by omega
        have hcd' : c < rd'.es.length := by omega
        obtain ⟨ej, hej⟩ : ∃ e, e = rj.es[c] := ⟨_, rfl⟩
        obtain ⟨ed, hed⟩ : ∃ e, e = rd'.es[c] := ⟨_, rfl⟩
        have cj := zj3 ej (by rw [hej]; exact List.getElem_mem _)
        have cd := zd3 ed (by rw [hed]; exact List.getElem_mem _)
        have gj : N'[j]? = some rj := by rw [List.getElem?_eq_getElem hjN, ← hrj]
        have gd : N'[d]? = some rd' := by rw [List.getElem?_eq_getElem hdN, ← hrd']
        have mj : Mf N' j c = ej.num := Mf_get gj (by rw [List.getElem?_eq_getElem hcj, ← hej])
        have md : Mf N' d c = ed.num := Mf_get gd (by rw [List.getElem?_eq_getElem hcd', ← hed])
        have hNj : Mf N' j = Mf N j := by unfold Mf; rw [hhigh j (.inr (Nat.le_refl _))]
        have hNd : Mf N' d = Mf N d := by rw [hlow d hdj, hel0]
        have hrjf : rj.f = Mf N j := by rw [← hNj]; unfold Mf; rw [gj]
        have hrdf' : rd'.f = Mf N d := by rw [← hNd]; unfold Mf; rw [gd]
        have hB' := hbl c (by omega)
        have hpL2 : ∀ (R : Rw), R.i.f ≠ nx → (∀ e, e ∈ R.es → e.i.f ≠ nx) → PV.poisonL [nx] [PV.sl R.i 2 (R.es.map Ent.pv)] = [PV.sl R.i 2 (R.es.map Ent.pv)] := fun R h1 h2 => by simp only [poisonL_cons', poison_row ⟨h1, h2⟩, poisonL_nil']
        have hel1 : ej.l.length < 35184372088800 := by rw [cj.l]; have := cj.z.len; omega
        simp (disch := omega) [c18L0, f1, f2, f3, f4, f5, f6, f7, f8, f9, f10, hk2, hjN, hdN, ← hrj, ← hrd', hcj, hcd', ← hej, ← hed, hNl']
        refine CallK.of (by simp) (zero_call (by omega) ej hel1 ?_)
        by_cases h0 : ej.num = 0
        · simp (disch := omega) [(len_num cj).2 h0, f1, f2, f3, f4, f5, f6, f7, f8, f9, f10]
          refine ⟨k2 - 1, by omega, j + 1, nx2, N', by omega, by omega, by simp [At, f1, f2, f3, f4, f5, f6, f7, f8, f9, f10], by simp [f0], hnx2, hNl', hNz', hNc', fun q hq => ?_, fun q hq => hhigh q (by omega)⟩
          by_cases hqj : q = j
          · subst hqj
            rw [hNj]
            unfold elimF
            rw [if_neg (fun h => h.2 (by rw [← hNj, mj, h0]))]
          · exact hlow q (by omega)
        · have hne : ¬ ej.l.length = 0 := fun h => h0 ((len_num cj).1 h)
          have hne2 : ¬ dig ej.num.natAbs = [] := fun h => hne (by rw [cj.l, h]; rfl)
          simp (disch := omega) [hne2, f1, f2, f3, f4, f5, f6, f7, f8, f9, f10, hjN, hdN, ← hrj, ← hrd', hcj, hcd', ← hej, ← hed, cj.s, cj.l, cd.s, cd.l]
          refine CallK.of (by simp) (less_call (by omega) rj.i rd'.i ed.i ej.i rj.es rd'.es ed.num ej.num nx2 (bnd b c) (by omega) (by omega) zj3 zd3 cd.z cj.z (by omega) fun i4 n4 o g4 d4 hol ho => ?_)
          have hnz : ∀ i' : Sid, newSid nx2 n4 i' → i'.f ≠ nx ∧ i'.f < n4 := fun i' h => by
            rcases h with rfl | h
            · exact ⟨by show 0 ≠ nx; omega, by show 0 < n4; omega⟩
            · exact ⟨by omega, h.2⟩
          obtain ⟨R, hR⟩ : ∃ R : Rw, R = ⟨i4, o⟩ := ⟨_, rfl⟩
          have hRi : R.i = i4 := by rw [hR]
          have hRe : R.es = o := by rw [hR]
          have hoe : ∀ e, e ∈ o → ∃ q p r, q < rj.es.length ∧ rj.es[q]? = some p ∧ rd'.es[q]? = some r ∧ o[q]? = some e ∧ ∃ i', newSid nx2 n4 i' ∧ e = entZ i' (p.num * ed.num - r.num * ej.num) := fun e he => by
            obtain ⟨q, hq, rfl⟩ := List.mem_iff_getElem.1 he
            obtain ⟨e', p', r', t1, t2, t3, t4⟩ := ho q (by omega)
            have : e' = o[q] := by rw [List.getElem?_eq_getElem hq] at t1; exact (Option.some.inj t1).symm
            subst this
            exact ⟨q, p', r', by omega, t2, t3, t1, t4⟩
          have hRc : Clean nx R := ⟨by rw [hRi]; exact (hnz i4 d4).1, fun e he => by
            rw [hRe] at he
            obtain ⟨q, p', r', t1, t2, t3, t4, i', t5, t6⟩ := hoe e he
            rw [t6]; exact (hnz i' t5).1⟩
          have hRz : R.i.f < n4 ∧ R.es.length = w ∧ ∀ e, e ∈ R.es → ECan n4 (bnd b (c + 1)) e := by
            refine ⟨by rw [hRi]; exact (hnz i4 d4).2, by rw [hRe]; omega, fun e he => ?_⟩
            rw [hRe] at he
            obtain ⟨q, p', r', t1, t2, t3, t4, i', t5, t6⟩ := hoe e he
            rw [t6]
            refine entZ_can (hnz i' t5).2 ?_
            have z1 := ((zj3 p' (List.mem_of_getElem? t2)).z).mul cd.z
            have z2 := ((zd3 r' (List.mem_of_getElem? t3)).z).mul cj.z
            exact (z1.sub z2).mono (by simp only [bnd]; omega)
          have hRp := hpL2 R hRc.1 hRc.2
          rw [hRi, hRe] at hRp
          have hu3 : PV.upd ⟨nx, nx + 1, 0⟩ 1 j 0 [PV.sl i4 2 (o.map Ent.pv)] (.sl ⟨nx, nx + 1, 0⟩ 1 (N'.map Rw.pv)) = .sl ⟨nx, nx + 1, 0⟩ 1 ((N'.set j R).map Rw.pv) := by
            have := upd_rows_same (i := ⟨nx, nx + 1, 0⟩) (j := j) (r := R) hNc'
            rwa [hRi, hRe] at this
          obtain ⟨N2, hN2⟩ : ∃ N2, N2 = N'.set j R := ⟨_, rfl⟩
          rw [← hN2] at hu3
          have hN2m : ∀ r, r ∈ N2 → r ∈ N' ∨ r = R := fun r hr => by
            rw [hN2] at hr
            exact List.mem_or_eq_of_mem_set hr
          have hRf : R.f = elimF (Mf N) d c j := by
            unfold elimF
            rw [if_pos ⟨hdj, by rw [← hNj, mj]; exact h0⟩]
            funext x
            by_cases hx : x < w
            · obtain ⟨e', p', r', t1, t2, t3, i', t5, t6⟩ := ho x (by omega)
              have a1 : Mf N j x = p'.num := by rw [← hNj]; exact Mf_get gj t2
              have a2 : Mf N d x = r'.num := by rw [← hNd]; exact Mf_get gd t3
              have a3 : Mf N d c = ed.num := by rw [← hNd]; exact md
              have a4 : Mf N j c = ej.num := by rw [← hNj]; exact mj
              unfold Rw.f
              rw [hRe, t1]
              simp only
              rw [t6, entZ_num, a1, a2, a3, a4]
            · have a1 : Mf N j x = 0 := Mf_rows N (fun r hr => (hNz r hr).2.1) j x (by omega)
              have a2 : Mf N d x = 0 := Mf_rows N (fun r hr => (hNz r hr).2.1) d x (by omega)
              unfold Rw.f
              rw [hRe, List.getElem?_eq_none (by omega), a1, a2]
              simp
          simp (disch := omega) [f1, f2, f3, f4, f5, f6, f7, f8, f9, f10, f0, hjN, hRp, huM, huL, hu3, hn0]
          refine ⟨by omega, k2 - 1, by omega, j + 1, n4, N2, by omega, by omega, by simp [At, f1, f2, f3, f4, f5, f6, f7, f8, f9, f10, f0, huM, huL, hu3, hn0], by simp [f0], by omega, by rw [hN2]; simp [hNl'], fun r hr => ?_, fun r hr => ?_, fun q hq => ?_, fun q hq => ?_⟩
          · rcases hN2m r hr with h | h
            · exact (hNz'.mono (n' := n4) (by omega) (Nat.le_refl _)) r h
            · exact h ▸ hRz
          · rcases hN2m r hr with h | h
            · exact hNc' r h
            · exact h ▸ hRc
          · rw [hN2, Mf_set hjN]
            show (if q = j then R.f else Mf N' q) = _
            by_cases hqj : q = j
            · subst hqj; rw [if_pos rfl]; exact hRf
            · rw [if_neg hqj]; exact hlow q (by omega)
          · rw [hN2, List.getElem?_set_ne (by omega)]; exact hhigh q (by omega)
      · have hjn : j = N'.length := by omega
        have hMN : Mf N' = elimF (swapF (Mf L) d p) d c := by
          rw [← hNf]
          funext q
          by_cases hq : q < j
          · exact hlow q hq
          · have z1 : ∀ x, Mf N' q x = 0 := fun x => Mf_high N' q x (by omega)
            have z2 : ∀ x, Mf N q x = 0 := fun x => Mf_high N q x (by omega)
            funext x
            unfold elimF
            rw [if_neg (fun h => h.2 (z2 c)), z1, z2]
        simp (disch := omega) [c18L0, c18R0, c18R1, f1, f2, f3, f4, f5, f6, f7, f8, f9, f10, hjn]
        refine ⟨k - 1, by omega, c + 1, d + 1, nx2, ⟨nx, nx + 1, 0⟩, N', by omega, by simp [At, f1, f2, f3, f4, f5, f6, f7, f8, f9, f10], by simp [f0], by omega, by show nx < nx2; omega, by omega, hNz', ?_, fun r hr => hRk r ?_⟩
        · rw [hMN]
          exact hSt.step ⟨hp1, by omega⟩ hp3
        · rw [hMN] at hr
          exact rank_swap (d := d) (p := p) (by omega) (by omega) (rank_elim (by omega) (by simp [swapF]; exact hp3) hr)
  · have := hQ nx d hnx (hRk d ?_)
    · simp (disch := omega) [c18L1, e1, e2, e3, e4, e5, e6, e7, e8]
      refine CallK.of (by simp) (RefWidth_call (by omega) i M (by omega) (by omega) ?_)
      rw [hwM]
      simpa (disch := omega) [c18R2, e1, e2, e3, e4, e5, e6, e7, e8, hk, hnx] using this
    · have hcw : c = w := by omega
      subst hcw
      rw [← hLl] at hSt ⊢
      exact hSt.rank (Mf_rows L fun r hr => (hL r hr).2.1)
end Go.Proofs.Ytcdkgeeookcoeaa
