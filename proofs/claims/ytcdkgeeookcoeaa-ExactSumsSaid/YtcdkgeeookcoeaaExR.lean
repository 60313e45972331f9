/- The law ExactSums, by value; and what it shares with ExactTurns. -/
import Derived.Test.YtcdkgeeookcoeaaExN
import Derived.Test.YtcdkgeeookcoeaaAdB
set_option linter.unusedVariables false
set_option linter.unusedSimpArgs false
namespace Go.Proofs.Ytcdkgeeookcoeaa
open Go.Proofs

theorem Dt_setswap1 {l : List (Nat → Int)} {i k : Nat} (hik : i < k) (hk : k < l.length) (cols : List Nat) : Dt ((l.set i l[k]).set k (l[i]'(by omega))) cols = - Dt l cols := by
  have h1 : l = l.take i ++ l[i] :: ((l.drop (i + 1)).take (k - i - 1) ++ l[k] :: l.drop (k + 1)) := by
    have a1 : l.drop (i + 1) = (l.drop (i + 1)).take (k - i - 1) ++ l[k] :: l.drop (k + 1) := by
      have := (List.take_append_drop (k - i - 1) (l.drop (i + 1))).symm
      rw [List.drop_drop, show i + 1 + (k - i - 1) = k by omega] at this
      rw [this]
      congr 1
      · rw [List.take_append_of_le_length (by simp; omega), List.take_take, Nat.min_self]
      · exact List.drop_eq_getElem_cons hk
    rw [← a1, ← List.drop_eq_getElem_cons (by omega), List.take_append_drop]
  obtain ⟨pre, hpre⟩ : ∃ p, p = l.take i := ⟨_, rfl⟩
  obtain ⟨mid, hmid⟩ : ∃ p, p = (l.drop (i + 1)).take (k - i - 1) := ⟨_, rfl⟩
  obtain ⟨post, hpost⟩ : ∃ p, p = l.drop (k + 1) := ⟨_, rfl⟩
  obtain ⟨a, ha⟩ : ∃ a, a = l[i]'(by omega) := ⟨_, rfl⟩
  obtain ⟨b, hb⟩ : ∃ b, b = l[k] := ⟨_, rfl⟩
  have lp : pre.length = i := by rw [hpre]; simp; omega
  have lm : mid.length = k - i - 1 := by rw [hmid]; simp; omega
  rw [← ha, ← hb]
  rw [← hpre, ← hmid, ← hpost, ← ha, ← hb] at h1
  rw [h1]
  have e : ((pre ++ a :: (mid ++ b :: post)).set i b).set k a = pre ++ b :: (mid ++ a :: post) := by
    rw [List.set_append_right _ _ (by omega), lp, Nat.sub_self, List.set_cons_zero, List.set_append_right _ _ (by omega), lp]
    rw [show k - i = (k - i - 1) + 1 by omega, List.set_cons_succ, List.set_append_right _ _ (by omega), lm, Nat.sub_self, List.set_cons_zero]
  rw [e, Dt_exchange pre b mid a post]
theorem Dt_setswap {l : List (Nat → Int)} {i k : Nat} (hi : i < l.length) (hk : k < l.length) (hik : i ≠ k) (cols : List Nat) : Dt ((l.set i l[k]).set k l[i]) cols = - Dt l cols := by
  rcases Nat.lt_or_ge i k with h | h
  · exact Dt_setswap1 h hk cols
  · rw [List.set_comm _ _ hik]
    exact Dt_setswap1 (by omega) hi cols
/-- Rows turned into columns. -/
theorem turn_facts {n n' w b : Nat} {M T : List Rw} (hM : MxOk n w b M) (hn : n ≤ n') (hn' : 0 < n') (hTl : T.length = w) (hT : ∀ q, q < w → ∃ i', newSid n n' i' ∧ T[q]? = some ⟨i', colE M q⟩) : MxOk n' M.length b T ∧ Mf T = fun c i => Mf M i c := by
  have hmem : ∀ r, r ∈ T → ∃ q i', q < w ∧ newSid n n' i' ∧ r = ⟨i', colE M q⟩ := fun r hr => by
    obtain ⟨q, hq, rfl⟩ := List.mem_iff_getElem.1 hr
    obtain ⟨i', h1, h2⟩ := hT q (by omega)
    rw [List.getElem?_eq_getElem hq] at h2
    exact ⟨q, i', by omega, h1, Option.some.inj h2⟩
  have hcol : ∀ q, q < w → ∀ e, e ∈ colE M q → ∃ r, r ∈ M ∧ e ∈ r.es := fun q hq e he => by
    obtain ⟨r, hr, rfl⟩ := List.mem_map.1 he
    have hw := (hM r hr).w
    have : r.es.getD q default = r.es[q] := by simp [List.getD, show q < r.es.length by omega]
    exact ⟨r, hr, by rw [this]; exact List.getElem_mem _⟩
  constructor
  · intro r hr
    obtain ⟨q, i', h1, h2, rfl⟩ := hmem r hr
    refine ⟨newSid_lt h2 hn', by simp [colE], fun e he => ?_⟩
    obtain ⟨r', hr', he'⟩ := hcol q h1 e he
    exact ((hM r' hr').e e he').mono hn
  · funext c i
    by_cases hc : c < w
    · obtain ⟨i', h1, h2⟩ := hT c hc
      unfold Mf
      rw [h2]
      simp only [Rw.f, colE, List.getElem?_map]
      cases hi : M[i]? with
      | none => rfl
      | some r =>
        have hw := (hM r (List.mem_of_getElem? hi)).w
        simp [List.getD, Rw.f, show c < r.es.length by omega]
    · rw [Mf_rows M (fun r hr => (hM r hr).w) i c (by omega), Mf_high T c i (by omega)]
theorem wrap_u64_ex (z : Int) : ∃ a : Nat, IntKind.u64.wrap z = (a : Int) ∧ a < 18446744073709551616 := by
  rw [wrap_u64_eq]
  exact ⟨(z % 18446744073709551616).toNat, by omega, by omega⟩
theorem ExactTurns_no {n : Nat} (hn : 0 < n) (i : Sid) (M : List Rw) (hM : Fits M) (a c : Int) (hno : lightM 4 M = false ∨ chk M ≠ 0 ∨ M.length = 0 ∨ widthR M ≠ M.length) {Q : PV → Nat → List Nat → Prop}
    (hQ : ∀ n', n ≤ n' → Q (.bool true) n' []) : PCall Try.prog 6 [.sl i 1 (M.map Rw.pv), .int .i64 a, .int .i64 c] n Q := by
  have hl := hM.1
  refine of6 hn ?_
  simp (disch := omega) [c6]
  refine CallK.of (by simp) (LightM_call hn i M hM 4 (by omega) ?_)
  cases hlt : lightM 4 M
  · simp (disch := omega) [hlt]
    refine CallK.of (by simp) (awakeE_call hn fun n' g => ?_)
    simpa (disch := omega) [g] using hQ n' g
  · simp (disch := omega) [hlt]
    refine CallK.of (by simp) (RefCheckM_call hn i M hM ?_)
    by_cases hk : chk M = 0
    · by_cases h0 : M.length = 0
      · simp (disch := omega) [hk, h0]
        refine CallK.of (by simp) (awakeE_call hn fun n' g => ?_)
        simpa (disch := omega) [g] using hQ n' g
      · have h1 : widthR M ≠ M.length := by
          rcases hno with h | h | h | h
          · rw [hlt] at h; cases h
          · exact absurd hk h
          · exact absurd h h0
          · exact h
        have h00 : 0 < M.length := by omega
        have hw0 := width_get h00
        have hML : ¬ M = [] := fun e => h0 (by rw [e]; rfl)
        simp (disch := omega) [hk, h00, hML, hw0, h1]
        refine CallK.of (by simp) (awakeE_call hn fun n' g => ?_)
        simpa (disch := omega) [g] using hQ n' g
    · have hk' : (chk M != 0) = true := by simpa using hk
      simp (disch := omega) [hk, hk']
      refine CallK.of (by simp) (awakeE_call hn fun n' g => ?_)
      simpa (disch := omega) [g] using hQ n' g

/-- Of a walk's state no more is kept than what is named. -/
theorem CallK.gen {P : Program} {dr : Bool} {g : FuncId} {args : List PV} {n nt nx : Nat} {s : St} {d : Option Tmp} {K : St → Prop} {bs : List (List PV)} (l : List (Nat × PV)) (h : At s nt bs nx l) (hk : ∀ S, At S nt bs nx l → CallK P dr g args n S d K) : CallK P dr g args n s d K := hk s h
theorem set_self {α : Type} {l : List α} {i : Nat} (h : i < l.length) : l.set i l[i] = l := by
  apply List.ext_getElem?
  intro j
  by_cases hj : j = i
  · subst hj; simp [h]
  · rw [List.getElem?_set_ne (by omega)]
set_option maxRecDepth 20000 in
set_option maxHeartbeats 2000000 in
theorem ExactTurns_call {n : Nat} (hn : 0 < n) (i : Sid) (hi : i.f < n) (M : List Rw) (hM : Fits M) (hs : Sids n M) (a c : Int) {Q : PV → Nat → List Nat → Prop}
    (hQ : ∀ n' D, n ≤ n' → (∀ x, x ∈ D → n ≤ x) → Q (.bool true) n' D) : PCall Try.prog 6 [.sl i 1 (M.map Rw.pv), .int .i64 a, .int .i64 c] n Q := by
  have hQ : ∀ n', n ≤ n' → Q (.bool true) n' [] := fun n' h => hQ n' [] h (by simp)
  by_cases hno : lightM 4 M = false ∨ chk M ≠ 0 ∨ M.length = 0 ∨ widthR M ≠ M.length
  · exact ExactTurns_no hn i M hM a c hno hQ
  have hlt : lightM 4 M = true := by cases h : lightM 4 M; exact absurd (.inl h) hno; rfl
  have hk : chk M = 0 := Decidable.byContradiction fun h => hno (.inr (.inl h))
  have h0 : 0 < M.length := Nat.pos_of_ne_zero fun h => hno (.inr (.inr (.inl h)))
  have hw : widthR M = M.length := Decidable.byContradiction fun h => hno (.inr (.inr (.inr h)))
  obtain ⟨hm, hMl, _⟩ := mx_of hk hlt hM hs
  rw [hw] at hm
  have hw0 := width_get h0
  rw [hw] at hw0
  have hm10 := hm.le (show 4 ≤ 10 by omega)
  obtain ⟨N, hN⟩ : ∃ N, N = M.length := ⟨_, rfl⟩
  obtain ⟨a1, ha1, ha2⟩ := wrap_u64_ex a
  obtain ⟨c1, hc1, hc2⟩ := wrap_u64_ex c
  obtain ⟨p, hp⟩ : ∃ p, p = a1 % M.length := ⟨_, rfl⟩
  obtain ⟨q, hq⟩ : ∃ q, q = c1 % M.length := ⟨_, rfl⟩
  have hpM : p < M.length := by rw [hp]; exact Nat.mod_lt _ h0
  have hqM : q < M.length := by rw [hq]; exact Nat.mod_lt _ h0
  have hML : ¬ M = [] := fun e => by rw [e] at h0; simp at h0
  have hrp : (a1 : Int).tmod (M.length : Int) = (p : Int) := by rw [hp]; exact (Int.ofNat_tmod a1 M.length).symm
  have hrq : (c1 : Int).tmod (M.length : Int) = (q : Int) := by rw [hq]; exact (Int.ofNat_tmod c1 M.length).symm
  have hM0 : ¬ ((M.length : Int) = 0) := by omega
  refine of6 hn ?_
  simp (disch := omega) [c6]
  refine CallK.of (by simp) (LightM_call hn i M hM 4 (by omega) ?_)
  simp (disch := omega) [hlt]
  refine CallK.of (by simp) (RefCheckM_call hn i M hM ?_)
  simp (disch := omega) [-wrap_u64_at, hk, h0, hML, hw0, ha1, hc1, hrp, hrq, hM0]
  rw [AppK_gen (by omega)]
  refine ⟨by simp; omega, .inl rfl, by simp, ?_⟩
  obtain ⟨rp, hrp0⟩ : ∃ r, r = M[p] := ⟨_, rfl⟩
  obtain ⟨rq, hrq0⟩ : ∃ r, r = M[q] := ⟨_, rfl⟩
  have hcl := clean_of hm.z (Nat.le_refl n)
  have hcp := hcl rp (by rw [hrp0]; exact List.getElem_mem _)
  have hcq := hcl rq (by rw [hrq0]; exact List.getElem_mem _)
  have hpp : PV.poisonL [n] [PV.sl rp.i 2 (rp.es.map Ent.pv)] = [PV.sl rp.i 2 (rp.es.map Ent.pv)] := by simp only [poisonL_cons', poison_row hcp, poisonL_nil']
  have hpq : PV.poisonL [n] [PV.sl rq.i 2 (rq.es.map Ent.pv)] = [PV.sl rq.i 2 (rq.es.map Ent.pv)] := by simp only [poisonL_cons', poison_row hcq, poisonL_nil']
  have huM : ∀ j vs, PV.upd ⟨n, n + 1, 0⟩ 1 j 0 vs (.sl i 1 (M.map Rw.pv)) = .sl i 1 (M.map Rw.pv) := fun j vs => upd_rows_other (by show i.f ≠ n; omega) hcl
  obtain ⟨N1, hN1⟩ : ∃ N1, N1 = M.set p rq := ⟨_, rfl⟩
  have hu1 : PV.upd ⟨n, n + 1, 0⟩ 1 p 0 [PV.sl rq.i 2 (rq.es.map Ent.pv)] (.sl ⟨n, n + 1, 0⟩ 1 (M.map Rw.pv)) = .sl ⟨n, n + 1, 0⟩ 1 (N1.map Rw.pv) := by rw [hN1]; exact upd_rows_same hcl
  have hm1 : MxOk n M.length 4 N1 := fun r hr => by
    rw [hN1] at hr
    rcases List.mem_or_eq_of_mem_set hr with h | h
    · exact hm r h
    · rw [h, hrq0]; exact hm _ (List.getElem_mem _)
  have hN1l : N1.length = M.length := by rw [hN1]; simp
  obtain ⟨N2, hN2⟩ : ∃ N2, N2 = N1.set q rp := ⟨_, rfl⟩
  have hu2 : PV.upd ⟨n, n + 1, 0⟩ 1 q 0 [PV.sl rp.i 2 (rp.es.map Ent.pv)] (.sl ⟨n, n + 1, 0⟩ 1 (N1.map Rw.pv)) = .sl ⟨n, n + 1, 0⟩ 1 (N2.map Rw.pv) := by rw [hN2]; exact upd_rows_same (clean_of hm1.z (Nat.le_refl n))
  have hm2 : MxOk n M.length 4 N2 := fun r hr => by
    rw [hN2] at hr
    rcases List.mem_or_eq_of_mem_set hr with h | h
    · exact hm1 r h
    · rw [h, hrp0]; exact hm _ (List.getElem_mem _)
  have hN2l : N2.length = M.length := by rw [hN2]; simp [hN1l]
  have hfit2 := mx_fits hm2 (by omega) (by omega) (by omega)
  have hchk2 := mx_chk hm2 (by omega) (by omega) (by omega)
  have hwd2 := mx_width hm2 (by omega)
  obtain ⟨z, hz⟩ : ∃ z, z = Dt (M.map Rw.f) (List.range M.length) := ⟨_, rfl⟩
  have hdt2 : Dt (N2.map Rw.f) (List.range N2.length) = if p = q then z else -z := by
    rw [hN2l, hN2, hN1, List.map_set, List.map_set, hrq0, hrp0]
    have e1 : M[q].f = (M.map Rw.f)[q]'(by simpa using hqM) := by simp
    have e2 : M[p].f = (M.map Rw.f)[p]'(by simpa using hpM) := by simp
    rw [e1, e2]
    by_cases h : p = q
    · subst h; rw [if_pos rfl, set_self, set_self, hz]
    · rw [if_neg h, Dt_setswap (by simpa using hpM) (by simpa using hqM) h, hz]
  have hzs : sz z 97 := by rw [hz]; exact sz_Dt6 (fun r hr => sz_num hm10 M.length r (by rw [List.take_of_length_le (by simp)]; exact hr)) (by simpa using hMl) (by simpa using hMl)
  obtain ⟨y, hy⟩ : ∃ y, y = if p = q then z else -z := ⟨_, rfl⟩
  rw [← hy] at hdt2
  have hys : sz y 97 := hzs.le (by rw [hy]; split <;> simp)
  have hn0 : ¬ n < n := by omega
  simp (disch := omega) [-wrap_u64_at, hpM, hqM, ← hrp0, ← hrq0, hpp, hpq, huM, hu1, hu2, hn0, hN1l]
  refine ⟨by omega, ?_⟩
  refine CallK.gen (nt := 155) (bs := []) (nx := n + 2) [(0, .sl i 1 (M.map Rw.pv)), (1, .int .i64 p), (2, .int .i64 q), (7, .sl ⟨n, n + 1, 0⟩ 1 (N2.map Rw.pv))] (by simp [At, huM, hu1, hu2]) ?_
  clear huM hu1 hu2 hpp hpq hcp hcq hcl hn0 ha1 hc1 hrp hrq hM0
  rintro s ⟨e1, e2, e3, e4, e5⟩
  simp at e5
  obtain ⟨e5, e6, e7, e8⟩ := e5
  refine CallK.of (by simp) (Det_ok (by omega) i M hM hk ((hm10.mono (show n ≤ n + 1 + 1 by omega)) |> fun h => by rw [hw]; exact h) (fun _ => hw) fun i1 n1 g1 d1 => ?_)
  rw [← hz]
  simp (disch := omega) [g1, e1, e2, e3, e4, e5, e6, e7, e8]
  refine CallK.of (by simp) (Det_ok (by omega) ⟨n, n + 1, 0⟩ N2 hfit2 hchk2 ((hm2.le (show 4 ≤ 10 by omega)).mono (show n ≤ n1 by omega) |> fun h => by rw [hwd2]; exact h) (fun _ => by rw [hwd2, hN2l]) fun i2 n2 g2 d2 => ?_)
  rw [hdt2]
  simp (disch := omega) [g1, g2, e1, e2, e3, e4, e5, e6, e7, e8]
  refine CallK.of (by simp) (Turned_call (by omega) i M M.length hw.symm (fun r hr => (hm r hr).w) (by omega) (by omega) fun i3 n3 T g3 d3 hTl hT => ?_)
  obtain ⟨hTm, hTf⟩ := turn_facts (hm.mono (show n ≤ n2 by omega)) g3 (by omega) hTl hT
  have hTfit := mx_fits hTm (by omega) (by omega) (by omega)
  have hTchk := mx_chk hTm (by omega) (by omega) (by omega)
  have hTwd := mx_width hTm (by omega)
  have hTdt : Dt (T.map Rw.f) (List.range T.length) = z := by
    rw [hz, map_f, map_f, hTl, hTf]
    unfold rowsOf
    rw [Dt_turn (Mf M) (List.range M.length) (List.range M.length) rfl]
  simp (disch := omega) [g1, g2, g3, e1, e2, e3, e4, e5, e6, e7, e8]
  refine CallK.of (by simp) (Det_ok (by omega) i3 T hTfit hTchk ((hTm.le (show 4 ≤ 10 by omega)) |> fun h => by rw [hTwd]; exact h) (fun _ => by rw [hTwd, hTl]) fun i4 n4 g4 d4 => ?_)
  rw [hTdt]
  simp (disch := omega) [g1, g2, g3, g4, e1, e2, e3, e4, e5, e6, e7, e8]
  refine CallK.of (by simp) (Rank_ok (by omega) i M M.length hw.symm hM hk (hm10.mono (by omega)) hMl hMl fun n5 b g5 hr hb => ?_)
  simp (disch := omega) [g1, g2, g3, g4, g5, e1, e2, e3, e4, e5, e6, e7, e8]
  refine CallK.gen (nt := 155) (bs := [[.bool (decide (z < 0)), .sl i1 1 (u32s (dig z.natAbs))], [.bool (decide (y < 0)), .sl i2 1 (u32s (dig y.natAbs))], [.bool (decide (z < 0)), .sl i4 1 (u32s (dig z.natAbs))]]) (nx := n5) [(0, .sl i 1 (M.map Rw.pv)), (1, .int .i64 p), (2, .int .i64 q), (8, .box 0 0), (9, .int .i64 0), (10, .box 1 0), (11, .int .i64 0), (12, .box 2 0), (13, .int .i64 0), (14, .int .i64 b), (15, .int .i64 0)] (by simp [At, e1, e2, e3, e4, e5, e6, e7, e8]) ?_
  clear e1 e2 e3 e4 e5 e6 e7 e8 s
  rintro s ⟨e1, e2, e3, e4, e5⟩
  simp at e5
  obtain ⟨e5, e6, e7, e8, e9, e10, e11, e12, e13, e14, e15⟩ := e5
  refine CallK.of (by simp) (Turned_call (by omega) i M M.length hw.symm (fun r hr => (hm r hr).w) (by omega) (by omega) fun i6 n6 T2 g6 d6 hTl2 hT2 => ?_)
  obtain ⟨hTm2, hTf2⟩ := turn_facts (hm.mono (show n ≤ n5 by omega)) g6 (by omega) hTl2 hT2
  have hTfit2 := mx_fits hTm2 (by omega) (by omega) (by omega)
  have hTchk2 := mx_chk hTm2 (by omega) (by omega) (by omega)
  have hTwd2 := mx_width hTm2 (by omega)
  simp (disch := omega) [g6, e1, e2, e3, e4, e5, e6, e7, e8, e9, e10, e11, e12, e13, e14, e15]
  refine CallK.of (by simp) (Rank_ok (by omega) i6 T2 M.length hTwd2.symm hTfit2 hTchk2 (hTm2.le (by omega)) (by omega) hMl fun n7 b2 g7 hr2 hb2 => ?_)
  have hbb : b2 = b := by
    have h1 := rank_turn (A := Mf M) (n := M.length) (w := M.length) (Mf_high M) (Mf_rows M fun r hr => (hm r hr).w) hr
    rw [hTl2, hTf2] at hr2
    exact hr2.unique h1
  subst hbb
  have hfull := rank_full (Mf_rows M fun r hr => (hm r hr).w) hr
  rw [← map_f, ← hz] at hfull
  have hlz : 0 < (dig z.natAbs).length ↔ z ≠ 0 := by
    constructor
    · rintro h rfl; simp [dig_zero] at h
    · intro h
      rcases Nat.eq_zero_or_pos (dig z.natAbs).length with e | e
      · have := dig_eq_nil.1 (List.eq_nil_of_length_eq_zero e); omega
      · exact e
  simp (disch := omega) [g6, g7, e1, e2, e3, e4, e5, e6, e7, e8, e9, e10, e11, e12, e13, e14, e15]
  refine CallK.gen (nt := 155) (bs := [[.bool (decide (z < 0)), .sl i1 1 (u32s (dig z.natAbs))], [.bool (decide (y < 0)), .sl i2 1 (u32s (dig y.natAbs))], [.bool (decide (z < 0)), .sl i4 1 (u32s (dig z.natAbs))]]) (nx := n7) [(0, .sl i 1 (M.map Rw.pv)), (1, .int .i64 p), (2, .int .i64 q), (8, .box 0 0), (10, .box 1 0), (12, .box 2 0), (14, .int .i64 b2), (16, .int .i64 b2), (117, .bool false)] (by simp [At, e1, e2, e3, e4, e5, e6, e7, e8, e9, e10, e11, e12, e13, e14, e15]) ?_
  clear e1 e2 e3 e4 e5 e6 e7 e8 e9 e10 e11 e12 e13 e14 e15 s
  rintro s ⟨e1, e2, e3, e4, e5⟩
  simp at e5
  obtain ⟨e5, e6, e7, e8, e9, e10, e11, e12, e13⟩ := e5
  refine CallK.of (by simp) (Same_Z (by omega) i1 i4 z 97 hzs (by omega) ?_)
  have htest : binPV Try.prog .neq 4 (.bool (decide (b2 = M.length))) (.bool (decide (0 < (dig z.natAbs).length))) = some (.bool false) := by
    rw [binPV_neqb, show tbool Try.prog 4 = true from by simp, if_pos rfl]
    by_cases h : b2 = M.length
    · have h1 := hlz.2 (hfull.1 h); simp [h, h1]
    · have h1 : ¬ 0 < (dig z.natAbs).length := fun e => h (hfull.2 (hlz.1 e))
      simp [h, h1]
  by_cases hpq : p = q
  · rw [if_pos hpq] at hy
    have hpq' : (p : Int) = (q : Int) := by rw [hpq]
    simp (disch := omega) [-binPV_neqb, htest, e1, e2, e3, e4, e5, e6, e7, e8, e9, e10, e11, e12, e13, hpq]
    rw [hy]
    refine CallK.of (by simp) (Same_Z (by omega) i1 i2 z 97 hzs (by omega) ?_)
    simp (disch := omega) [e1, e2, e3, e4, e5, e6, e7, e8, e9, e10, e11, e12, e13]
    refine CallK.of (by simp) (awakeE_call (by omega) fun n' g => ?_)
    simpa (disch := omega) [e1, e2, e3, e4, e5, e6, e7, e8, e9, e10, e11, e12, e13, show n ≤ n' by omega] using hQ n' (by omega)
  · rw [if_neg hpq] at hy
    simp (disch := omega) [-binPV_neqb, htest, e1, e2, e3, e4, e5, e6, e7, e8, e9, e10, e11, e12, e13, hpq]
    refine CallK.of (by simp) (RNeg_Z (by omega) z y i1 97 hzs (by omega) hy fun i8 d8 => ?_)
    simp (disch := omega) [e1, e2, e3, e4, e5, e6, e7, e8, e9, e10, e11, e12, e13]
    refine CallK.of (by simp) (Same_Z (by omega) i2 i8 y 97 hys (by omega) ?_)
    simp (disch := omega) [e1, e2, e3, e4, e5, e6, e7, e8, e9, e10, e11, e12, e13]
    refine CallK.of (by simp) (awakeE_call (by omega) fun n' g => ?_)
    simpa (disch := omega) [e1, e2, e3, e4, e5, e6, e7, e8, e9, e10, e11, e12, e13, show n ≤ n' by omega] using hQ n' (by omega)

@[simp] theorem i32s_length (l : List Int) : (i32s l).length = l.length := by simp [i32s]
@[simp] theorem i32s_get (l : List Int) (i : Nat) : (i32s l)[i]? = (l[i]?).map fun x => PV.int .i32 x := by simp [i32s]
theorem upd_times {f g z j c : Nat} {vs : List PV} {it : Sid} {t : List Int} (h : it.f ≠ f) : PV.upd ⟨f, g, 0⟩ z j c vs (.sl it 1 (i32s t)) = .sl it 1 (i32s t) := by
  have h1 : ¬ (it = ⟨f, g, 0⟩ ∧ 1 = z) := fun e => h (by rw [e.1])
  have h2 : PV.poisonL [f] (i32s t) = i32s t := by
    induction t with
    | nil => simp [i32s]
    | cons x t ih => simp only [i32s, List.map_cons, poisonL_cons', poison_int] at ih ⊢; rw [ih]
  unfold PV.upd
  rw [if_neg h1]
  unfold PV.poison
  rw [if_neg (by simpa using h), h2]
theorem upd_ents {i : Sid} {j : Nat} {es : List Ent} {b : Bool} {i' : Sid} {l : List Nat} (h : ∀ e, e ∈ es → e.i.f ≠ i.f) : PV.upd i 2 j 0 [.bool b, .sl i' 1 (u32s l)] (.sl i 2 (es.map Ent.pv)) = .sl i 2 ((es.set j ⟨b, i', l⟩).map Ent.pv) := by
  unfold PV.upd
  rw [if_pos ⟨rfl, rfl⟩, poisonL_ents h]
  congr 1
  clear h
  induction es generalizing j with
  | nil => simp
  | cons q L ih =>
    cases j with
    | zero => simp [PV.withCells]
    | succ j => simp [ih]
def fE (es : List Ent) : Nat → Int := fun c => match es[c]? with | some e => e.num | none => 0
theorem upd_rows_any {f g z j c : Nat} {vs : List PV} {i : Sid} {L : List Rw} (hi : i.f ≠ f) (h : ∀ r, r ∈ L → Clean f r) : PV.upd ⟨f, g, 0⟩ z j c vs (.sl i 1 (L.map Rw.pv)) = .sl i 1 (L.map Rw.pv) := upd_rows_other hi h
def SOk (n nx b : Nat) (es : List Ent) : Prop := ∀ e, e ∈ es → ECan nx b e ∧ e.i.f ≠ n
def sumI (i it : Sid) (M : List Rw) (t : List Int) (w n : Nat) (k : Nat) (s : St) : Prop :=
  ∃ (j nx : Nat) (es : List Ent), j + k = M.length ∧ At s 119 [] nx [(0, .sl i 1 (M.map Rw.pv)), (1, .sl it 1 (i32s t)), (5, .sl ⟨n, n, 0⟩ 2 (es.map Ent.pv)), (6, .int .i64 j)] ∧ s.n0 = n ∧ n < nx ∧ es.length = w ∧ SOk n nx (5 + j) es ∧ Span (rowsOf M.length (Mf M)) (fE es)
def sumJ (i it : Sid) (M : List Rw) (t : List Int) (w n nx0 j : Nat) (x : Int) (S : Nat → Int) (k : Nat) (s : St) : Prop :=
  ∃ (c nx : Nat) (es : List Ent), c + k = w ∧ At s 119 [] nx [(0, .sl i 1 (M.map Rw.pv)), (1, .sl it 1 (i32s t)), (5, .sl ⟨n, n, 0⟩ 2 (es.map Ent.pv)), (6, .int .i64 j), (7, .int .i64 c)] ∧ s.n0 = n ∧ nx0 ≤ nx ∧ es.length = w ∧ SOk n nx (6 + j) es ∧ (∀ q, c ≤ q → ∀ e, es[q]? = some e → sz e.num (5 + j)) ∧ ∀ q, fE es q = if q < c then x * Mf M j q + S q else S q
theorem ExactSums_end {n : Nat} (hn : 0 < n) (i : Sid) (M : List Rw) (w : Nat) (hM : Fits M) (hk : chk M = 0) (hm : MxOk n w 4 M) (h0 : 0 < M.length) (h5 : M.length ≤ 5) (hw : w = widthR M) (hw6 : w ≤ 6) (es : List Ent) (nx : Nat) (hnx : n < nx) (hel : es.length = w) (hes : SOk n nx 10 es) (hS : Span (rowsOf M.length (Mf M)) (fE es)) {Q : PV → Nat → List Nat → Prop}
    (hQ : ∀ n', n ≤ n' → Q (.bool true) n' []) (s : St) (e1 : s.nt = 119) (e2 : s.boxes = []) (e3 : s.next = nx) (e4 : s.D = []) (e5 : s.slots 0 = .sl i 1 (M.map Rw.pv)) (e6 : s.slots 5 = .sl ⟨n, n, 0⟩ 2 (es.map Ent.pv)) : GO Try.prog c7R1 (fin Try.prog [.tmp 4] n Q) s := by
  have hw0 := width_get h0
  rw [← hw] at hw0
  have hML : ¬ M = [] := fun e => by rw [e] at h0; simp at h0
  obtain ⟨R, hR⟩ : ∃ R : Rw, R = ⟨⟨n, n, 0⟩, es⟩ := ⟨_, rfl⟩
  have hRf : R.f = fE es := by rw [hR]; rfl
  obtain ⟨M', hM'⟩ : ∃ M', M' = M ++ [R] := ⟨_, rfl⟩
  have hl' : M'.length = M.length + 1 := by rw [hM']; simp
  have hm' : ∀ n', nx ≤ n' → MxOk n' w 10 M' := fun n' hn' r hr => by
    rw [hM'] at hr
    rcases List.mem_append.1 hr with h | h
    · exact ((hm.le (show 4 ≤ 10 by omega)) r h).mono (by omega)
    · simp at h
      subst h
      rw [hR]
      refine ⟨by show n < n'; omega, hel, fun e he => ?_⟩
      obtain ⟨⟨c1, c2, c3, c4⟩, _⟩ := hes e he
      have := c4.len
      exact ⟨by omega, by rw [c2, c3]; exact rightW_Z (by omega), by rw [c3]; exact Lim.dig _, by rw [c3]; omega⟩
  have hfit' := mx_fits (hm' nx (Nat.le_refl _)) (by omega) (by omega) (by omega)
  have hchk' := mx_chk (hm' nx (Nat.le_refl _)) (by omega) hw6 (by omega)
  have hwd' := mx_width (hm' nx (Nat.le_refl _)) (by omega)
  simp (disch := omega) [c7R1, e1, e2, e3, e4, e5, e6]
  refine CallK.of (by simp) (Rank_ok (by omega) i M w hw hM hk ((hm.le (by omega)).mono (by omega)) (by omega) hw6 fun n1 b g1 hr hb => ?_)
  simp (disch := omega) [g1, e1, e2, e3, e4, e5, e6]
  rw [AppK_gen (by omega)]
  refine ⟨by simp; omega, .inl rfl, by simp, ?_⟩
  simp (disch := omega) [g1, e1, e2, e3, e4, e5, e6]
  rw [AppK_gen (by omega)]
  refine ⟨by simp; omega, .inl rfl, by simp, ?_⟩
  have hcat : M.map Rw.pv ++ [PV.sl ⟨n, n, 0⟩ 2 (es.map Ent.pv)] = M'.map Rw.pv := by rw [hM', hR]; simp
  simp (disch := omega) [g1, e1, e2, e3, e4, e5, e6, hcat]
  refine CallK.of (by simp) (Rank_ok (by omega) _ M' w hwd'.symm hfit' hchk' (hm' _ (by omega)) (by omega) hw6 fun n2 b2 g2 hr2 hb2 => ?_)
  have hAN : Mf M' M.length = fE es := by unfold Mf; rw [hM', List.getElem?_append_right (Nat.le_refl _)]; simp [hRf]
  have hAr : rowsOf M.length (Mf M') = rowsOf M.length (Mf M) := by
    unfold rowsOf
    refine List.map_congr_left fun q hq => ?_
    have : q < M.length := by simpa using hq
    unfold Mf
    rw [hM', List.getElem?_append_left this]
  have hbb : b2 = b := by
    rw [hl'] at hr2
    have := rank_more (A := Mf M') (n := M.length) (r := b) (by rw [hAr]; exact hr) (by rw [hAr, hAN]; exact hS)
    exact hr2.unique this
  subst hbb
  have hb1 := rank_le_rows hr
  have hb3 := rank_le_cols (Mf_high M) (Mf_rows M fun r hr => (hm r hr).w) hr
  simp (disch := omega) [g1, g2, e1, e2, e3, e4, e5, e6, hb1, h0, hML, hw0, hb3]
  refine CallK.of (by simp) (awakeE_call (by omega) fun n' g => ?_)
  simpa (disch := omega) [g1, g2, e1, e2, e3, e4, e5, e6, show n ≤ n' by omega] using hQ n' (by omega)
theorem ExactSums_no {n : Nat} (hn : 0 < n) (i it : Sid) (M : List Rw) (t : List Int) (hM : Fits M) (hno : lightM 4 M = false ∨ chk M ≠ 0 ∨ M.length = 0 ∨ 5 < M.length) {Q : PV → Nat → List Nat → Prop}
    (hQ : ∀ n', n ≤ n' → Q (.bool true) n' []) : PCall Try.prog 7 [.sl i 1 (M.map Rw.pv), .sl it 1 (i32s t)] n Q := by
  have hl := hM.1
  refine of7 hn ?_
  simp (disch := omega) [c7]
  refine CallK.of (by simp) (LightM_call hn i M hM 4 (by omega) ?_)
  cases hlt : lightM 4 M
  · simp (disch := omega) [hlt]
    refine CallK.of (by simp) (awakeE_call hn fun n' g => ?_)
    simpa (disch := omega) [g] using hQ n' g
  · simp (disch := omega) [hlt]
    refine CallK.of (by simp) (RefCheckM_call hn i M hM ?_)
    by_cases hk : chk M = 0
    · by_cases h0 : M.length = 0
      · simp (disch := omega) [hk, h0]
        refine CallK.of (by simp) (awakeE_call hn fun n' g => ?_)
        simpa (disch := omega) [g] using hQ n' g
      · have h1 : 5 < M.length := by
          rcases hno with h | h | h | h
          · rw [hlt] at h; cases h
          · exact absurd hk h
          · exact absurd h h0
          · exact h
        have hML : ¬ M = [] := fun e => h0 (by rw [e]; rfl)
        simp (disch := omega) [hk, hML, h1]
        refine CallK.of (by simp) (awakeE_call hn fun n' g => ?_)
        simpa (disch := omega) [g] using hQ n' g
    · have hk' : (chk M != 0) = true := by simpa using hk
      simp (disch := omega) [hk, hk']
      refine CallK.of (by simp) (awakeE_call hn fun n' g => ?_)
      simpa (disch := omega) [g] using hQ n' g
set_option maxRecDepth 20000 in
set_option maxHeartbeats 2000000 in
theorem ExactSums_call {n : Nat} (hn : 0 < n) (i it : Sid) (hi : i.f < n) (hit : it.f < n) (M : List Rw) (t : List Int) (hM : Fits M) (hs : Sids n M) (htl : t.length < 35184372088800) (ht : ∀ x, x ∈ t → -2147483648 ≤ x ∧ x < 2147483648) {Q : PV → Nat → List Nat → Prop}
    (hQ : ∀ n' D, n ≤ n' → (∀ x, x ∈ D → n ≤ x) → Q (.bool true) n' D) : PCall Try.prog 7 [.sl i 1 (M.map Rw.pv), .sl it 1 (i32s t)] n Q := by
  have hQ : ∀ n', n ≤ n' → Q (.bool true) n' [] := fun n' h => hQ n' [] h (by simp)
  by_cases hno : lightM 4 M = false ∨ chk M ≠ 0 ∨ M.length = 0 ∨ 5 < M.length
  · exact ExactSums_no hn i it M t hM hno hQ
  have hlt : lightM 4 M = true := by cases h : lightM 4 M; exact absurd (.inl h) hno; rfl
  have hk : chk M = 0 := Decidable.byContradiction fun h => hno (.inr (.inl h))
  have h0 : 0 < M.length := Nat.pos_of_ne_zero fun h => hno (.inr (.inr (.inl h)))
  have h5 : ¬ 5 < M.length := fun h => hno (.inr (.inr (.inr h)))
  obtain ⟨hm, hMl, hw6⟩ := mx_of hk hlt hM hs
  obtain ⟨w, hw⟩ : ∃ w, w = widthR M := ⟨_, rfl⟩
  have hw0 := width_get h0
  rw [← hw] at hm hw6 hw0
  have hML : ¬ M = [] := fun e => by rw [e] at h0; simp at h0
  have hcl := clean_of hm.z (Nat.le_refl n)
  have huM : ∀ z j c vs, PV.upd ⟨n, n, 0⟩ z j c vs (.sl i 1 (M.map Rw.pv)) = .sl i 1 (M.map Rw.pv) := fun z j c vs => upd_rows_any (by omega) hcl
  have huT : ∀ z j c vs, PV.upd ⟨n, n, 0⟩ z j c vs (.sl it 1 (i32s t)) = .sl it 1 (i32s t) := fun z j c vs => upd_times (by omega)
  have hrep : List.replicate w (PV.agg [.bool false, .sl ⟨0, 0, 0⟩ 1 []]) = (List.replicate w (default : Ent)).map Ent.pv := by simp [default]
  refine of7 hn ?_
  simp (disch := omega) [c7]
  refine CallK.of (by simp) (LightM_call hn i M hM 4 (by omega) ?_)
  simp (disch := omega) [hlt]
  refine CallK.of (by simp) (RefCheckM_call hn i M hM ?_)
  simp (disch := omega) [hk, h0, hML, h5, hw0]
  rw [hrep]
  refine ⟨by omega, ?_⟩
  refine GO_loopN (sumI i it M t w n) M.length ⟨0, n + 1, List.replicate w default, by omega, by simp [At], by simp, by omega, by simp, fun e he => ?_, ?_⟩ ?_
  · have he := List.eq_of_mem_replicate he
    subst he
    exact ⟨⟨by show 0 < n + 1; omega, rfl, by simp [default, Ent.num, numW, val, dig_zero], Nat.pow_pos (by omega)⟩, by show 0 ≠ n; omega⟩
  · have : fE (List.replicate w (default : Ent)) = fun _ => 0 := by
      funext q
      unfold fE
      by_cases hq : q < w
      · simp [hq, default, Ent.num, numW, val]
      · simp [hq]
    rw [this]; exact Span.zero
  rintro k s ⟨j, nx, es, hj, ⟨e1, e2, e3, e4, e5⟩, e0, hnx, hel, hes, hSp⟩
  simp at e5
  obtain ⟨e5, e6, e7, e8⟩ := e5
  by_cases hkj : j < M.length ∧ j < t.length
  · obtain ⟨hk1, hk2⟩ := hkj
    obtain ⟨r, hr0⟩ : ∃ r, r = M[j] := ⟨_, rfl⟩
    have hrok : RwOk n w 4 r := hm r (by rw [hr0]; exact List.getElem_mem _)
    obtain ⟨x, hx0⟩ : ∃ x, x = t[j] := ⟨_, rfl⟩
    have hxr := ht x (by rw [hx0]; exact List.getElem_mem _)
    have hxs : sz x 1 := by unfold sz; omega
    have hMj : M[j]? = some r := by rw [List.getElem?_eq_getElem hk1, hr0]
    have hMfj : Mf M j = r.f := by unfold Mf; rw [hMj]
    simp (disch := omega) [c7L1, e1, e2, e3, e4, e5, e6, e7, e8, hk1, hk2]
    refine GO_loopN (sumJ i it M t w n nx j x (fE es)) w ⟨0, nx, es, by omega, by simp [At, e1, e2, e3, e4, e5, e6, e7, e8], by simp [e0], Nat.le_refl _, hel, fun e he => ⟨(hes e he).1.mono (Nat.le_refl _) (by omega), (hes e he).2⟩, fun q _ e he => (hes e (List.mem_of_getElem? he)).1.z, fun q => by simp⟩ ?_
    rintro k2 s2 ⟨c, nx2, es2, hck, ⟨f1, f2, f3, f4, f5⟩, f0, hnx2, hel2, hes2, hun, hfun⟩
    simp at f5
    obtain ⟨f5, f6, f7, f8, f9⟩ := f5
    by_cases hkc : c < w
    · have hcr : c < r.es.length := by rw [hrok.w]; exact hkc
      have hce : c < es2.length := by omega
      obtain ⟨p, hp0⟩ : ∃ p, p = r.es[c] := ⟨_, rfl⟩
      obtain ⟨e, he0⟩ : ∃ e, e = es2[c] := ⟨_, rfl⟩
      have hpok := hrok.e p (by rw [hp0]; exact List.getElem_mem _)
      obtain ⟨ps, pl, pz⟩ := hpok.is
      obtain ⟨⟨ef, en, el, ez⟩, enf⟩ := hes2 e (by rw [he0]; exact List.getElem_mem _)
      have ez5 := hun c (Nat.le_refl _) e (by rw [List.getElem?_eq_getElem hce, he0])
      have hxw : IntKind.i64.wrap x = x := wrap_i64_id x (by omega) (by omega)
      simp (disch := omega) [-wrap_i64_at, c7L0, f1, f2, f3, f4, f5, f6, f7, f8, f9, hk1, hk2, hkc, hce, hcr, hel2, ← hr0, ← hx0, ← hp0, ← he0, hxw, ps, pl, en, el]
      refine CallK.of (by simp) (RefOf_call (by omega) x (by omega) (by omega) fun i3 n3 g3 d3 => ?_)
      simp (disch := omega) [g3, f1, f2, f3, f4, f5, f6, f7, f8, f9]
      refine CallK.of (by simp) (RMul_Z (by omega) p.num x (p.num * x) p.i i3 4 1 pz hxs (by omega) rfl fun i4 n4 g4 d4 => ?_)
      obtain ⟨y, hy⟩ : ∃ y, y = p.num * x := ⟨_, rfl⟩
      have hys : sz y 5 := by rw [hy]; exact pz.mul hxs
      rw [← hy]
      simp (disch := omega) [g3, g4, f1, f2, f3, f4, f5, f6, f7, f8, f9]
      obtain ⟨z, hz⟩ : ∃ z, z = e.num + y := ⟨_, rfl⟩
      have hzs : sz z (6 + j) := by rw [hz]; exact (ez5.add (hys.mono (show 5 ≤ 5 + j by omega))).mono (by omega)
      refine CallK.of (by simp) (RAdd_Z (by omega) e.num y z e.i i4 (5 + j) 5 ez5 hys (by omega) hz.symm fun i5 n5 g5 d5 => ?_)
      have hi5 : i5.f ≠ n ∧ i5.f < n5 := by
        rcases d5 with rfl | h
        · exact ⟨by show 0 ≠ n; omega, by show 0 < n5; omega⟩
        · exact ⟨by omega, h.2⟩
      have hue : PV.upd ⟨n, n, 0⟩ 2 c 0 [.bool (decide (z < 0)), .sl i5 1 (u32s (dig z.natAbs))] (.sl ⟨n, n, 0⟩ 2 (es2.map Ent.pv)) = .sl ⟨n, n, 0⟩ 2 ((es2.set c (entZ i5 z)).map Ent.pv) := upd_ents (i := ⟨n, n, 0⟩) fun e he => (hes2 e he).2
      obtain ⟨es3, hes3⟩ : ∃ es3, es3 = es2.set c (entZ i5 z) := ⟨_, rfl⟩
      rw [← hes3] at hue
      have hn0 : ¬ n < n := by omega
      have hpo : (PV.sl i5 1 (u32s (dig z.natAbs))).poison [n] = .sl i5 1 (u32s (dig z.natAbs)) := poison_sl _ _ _ _ (by simpa using hi5.1)
      simp (disch := omega) [g3, g4, g5, f1, f2, f3, f4, f5, f6, f7, f8, f9, f0, hel2, hkc, hpo, huM, huT, hue, hn0]
      refine ⟨by omega, k2 - 1, by omega, c + 1, n5, es3, by omega, by simp [At, f1, f2, f3, f4, f5, f6, f7, f8, f9, f0, huM, huT, hue, hn0], by simp [f0], by omega, by rw [hes3]; simp [hel2], fun e' he' => ?_, fun q hq e' he' => ?_, fun q => ?_⟩
      · rw [hes3] at he'
        rcases List.mem_or_eq_of_mem_set he' with h | h
        · exact ⟨(hes2 e' h).1.mono (by omega) (Nat.le_refl _), (hes2 e' h).2⟩
        · subst h; exact ⟨entZ_can hi5.2 hzs, hi5.1⟩
      · rw [hes3, List.getElem?_set_ne (by omega)] at he'
        exact hun q (by omega) e' he'
      · have hfs : fE es3 q = if q = c then z else fE es2 q := by
          unfold fE
          rw [hes3]
          by_cases h : q = c
          · subst h; simp [hce]
          · rw [List.getElem?_set_ne (by omega), if_neg h]
        rw [hfs]
        by_cases h : q = c
        · subst h
          have h1 : fE es2 q = e.num := by unfold fE; rw [List.getElem?_eq_getElem hce, ← he0]
          have h2 := hfun q
          rw [if_neg (by omega), h1] at h2
          have h3 : Mf M j q = p.num := Mf_get hMj (by rw [List.getElem?_eq_getElem hcr, ← hp0])
          rw [if_pos rfl, if_pos (by omega), h3, ← h2, hz, hy, Int.mul_comm]; omega
        · rw [if_neg h, hfun q]
          by_cases h' : q < c
          · rw [if_pos h', if_pos (by omega)]
          · rw [if_neg h', if_neg (by omega)]
    · have hcw : c = w := by omega
      simp (disch := omega) [c7L0, c7R0, f1, f2, f3, f4, f5, f6, f7, f8, f9, hel2, hkc]
      refine ⟨k - 1, by omega, j + 1, nx2, es2, by omega, by simp [At, f1, f2, f3, f4, f5, f6, f7, f8, f9], by simp [f0], by omega, hel2, fun e he => ⟨(hes2 e he).1.mono (Nat.le_refl _) (by omega), (hes2 e he).2⟩, ?_⟩
      have hfe : fE es2 = fun q => x * Mf M j q + fE es q := by
        funext q
        rw [hfun q]
        by_cases h : q < c
        · rw [if_pos h]
        · rw [if_neg h, Mf_rows M (fun r hr => (hm r hr).w) j q (by omega)]; simp
      rw [hfe]
      exact Span.step x (Mf M j) (fE es) (mem_rowsOf.2 ⟨j, hk1, rfl⟩) hSp
  · have hfin := ExactSums_end hn i M w hM hk hm h0 (by omega) hw hw6 es nx hnx hel (fun e he => ⟨(hes e he).1.mono (Nat.le_refl _) (by omega), (hes e he).2⟩) hSp hQ
    by_cases hk1 : j < M.length
    · have hk2 : ¬ j < t.length := fun h => hkj ⟨hk1, h⟩
      simp (disch := omega) [c7L1, e1, e2, e3, e4, e5, e6, e7, e8, hk1, hk2]
      exact hfin _ (by simp [e1]) (by simp [e2]) (by simp [e3]) (by simp [e4]) (by simp [e5]) (by simp [e7])
    · simp (disch := omega) [c7L1, e1, e2, e3, e4, e5, e6, e7, e8, hk1]
      exact hfin _ (by simp [e1]) (by simp [e2]) (by simp [e3]) (by simp [e4]) (by simp [e5]) (by simp [e7])
end Go.Proofs.Ytcdkgeeookcoeaa
