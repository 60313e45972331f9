/- Shifted numbers, made dyadic numbers, sums: that what they answer with is no later one's. (The same proofs as RefShift_call's and its kin's, with one more fact.) -/
import Derived.Test.YtdaoblhmnafllaaDoorSrA
set_option linter.unusedVariables false
set_option linter.unusedSimpArgs false
set_option maxHeartbeats 2000000
set_option maxRecDepth 20000
namespace Go.Proofs.YtdaoblhmnafllaaDoor
open Go.Proofs

section
variable {n : Nat} {z : Int} {Q : PV → Nat → List Nat → Prop} (hQ : ∀ (i : Sid) (n' : Nat), n ≤ n' → i.f < n' → Q (.agg [.bool (decide (z < 0)), .sl i 1 (u32s (dig z.natAbs))]) n' [])
include hQ
theorem RSb_0 {x m : Int} {s : St} (h : RS n z x m s) (h0 : m = 0 ∨ x = 0) : GO Tryd.prog c71R0 (fin Tryd.prog [.cell 4 30] n Q) s := by
  obtain ⟨i, nx, ⟨e1, e2, e3, e4, e5⟩, hnx, hix, hx0, hm1, hm2, hz, hx, hs⟩ := h
  simp at e5
  obtain ⟨e5, e6, e7⟩ := e5
  have hxz : x = z := by
    rcases h0 with e | e
    · subst e; rw [← hz, shZ_none]
    · subst e; rw [← hz, shZ_zero]
  subst hxz
  have := hQ i nx hnx hix
  simpa (disch := omega) [c71R0, e1, e2, e3, e4, e5, e6, e7] using ⟨by omega, this⟩
theorem RSb_1 {x m : Int} {s : St} (h : RS n z x m s) (h0 : m ≤ 0 ∨ x = 0) : GO Tryd.prog c71R1 (fin Tryd.prog [.cell 4 30] n Q) s := by
  simp only [c71R1]
  simp (disch := omega) []
  refine GO_loopN (fun k s => ∃ x m, RS n z x m s ∧ (m ≤ 0 ∨ x = 0) ∧ k = m.natAbs) m.natAbs ⟨x, m, h, h0, rfl⟩ ?_
  clear h h0
  rintro k s ⟨x, m, h, h0, rfl⟩
  have H := h
  obtain ⟨i, nx, ⟨e1, e2, e3, e4, e5⟩, hnx, hix, hx0, hm1, hm2, hz, hx, hs⟩ := h
  simp at e5
  obtain ⟨e5, e6, e7⟩ := e5
  have hl := hx.len
  by_cases hm : m < 0
  · by_cases hxz : x = 0
    · have hd : dig x.natAbs = [] := by subst hxz; exact dig_zero
      simp (disch := omega) [c71L3, e1, e2, e3, e4, e5, e6, e7, hm, hd]
      exact RSb_0 hQ (x := x) (m := m) ⟨i, nx, by simp [At, e1, e2, e3, e4, e5, e6, e7, hd], hnx, hix, hx0, hm1, hm2, hz, hx, hs⟩ (.inr hxz)
    · obtain ⟨hd, hd2⟩ := dig_ne hxz
      have hw : IntKind.i64.wrap (m + 1) = m + 1 := wrap_i64_is rfl (by omega)
      simp (disch := omega) [c71L3, e1, e2, e3, e4, e5, e6, e7, hm, hd, hd2]
      obtain ⟨y, hy⟩ : ∃ y, y = x.tdiv 2 := ⟨_, rfl⟩
      have hys : y.natAbs ≤ x.natAbs := by rw [hy, Int.natAbs_tdiv]; exact Nat.div_le_self _ _
      refine CallK.of (by simp) (Half_call (by omega) _ i hix _ (by omega) (Lim.dig _) y (by rw [numW_dig, hy]) fun i' n' h1 h2 => ?_)
      simp (disch := omega) [e1, e2, e3, e4, e5, e6, e7, hw]
      exact ⟨(m + 1).natAbs, by omega, y, m + 1, ⟨i', n', by simp [At, e1, e2, e3, e4, e5, e6, e7], by omega, newSid_lt h2 (by omega), by omega, by omega, by omega, by rw [hy, shZ_down1 hm, hz], hx.le hys, hs⟩, by omega, rfl⟩
  · simp (disch := omega) [c71L3, e1, e2, e3, e4, e5, e6, e7, hm]
    exact RSb_0 hQ (x := x) (m := m) ⟨i, nx, by simp [At, e1, e2, e3, e4, e5, e6, e7], hnx, hix, hx0, hm1, hm2, hz, hx, hs⟩ (by omega)
theorem RSb_2 {x m : Int} {s : St} (h : RS n z x m s) (h0 : m ≤ 0 ∨ x = 0) : GO Tryd.prog c71R2 (fin Tryd.prog [.cell 4 30] n Q) s := by
  simp only [c71R2]
  simp (disch := omega) []
  refine GO_loopN (fun k s => ∃ x m, RS n z x m s ∧ (m ≤ 0 ∨ x = 0) ∧ k = m.natAbs) m.natAbs ⟨x, m, h, h0, rfl⟩ ?_
  clear h h0
  rintro k s ⟨x, m, h, h0, rfl⟩
  have H := h
  obtain ⟨i, nx, ⟨e1, e2, e3, e4, e5⟩, hnx, hix, hx0, hm1, hm2, hz, hx, hs⟩ := h
  simp at e5
  obtain ⟨e5, e6, e7⟩ := e5
  have hl := hx.len
  by_cases hm : m ≤ -32
  · by_cases hxz : x = 0
    · have hd : dig x.natAbs = [] := by subst hxz; exact dig_zero
      simp (disch := omega) [c71L2, e1, e2, e3, e4, e5, e6, e7, hm, hd]
      exact RSb_1 hQ (x := x) (m := m) ⟨i, nx, by simp [At, e1, e2, e3, e4, e5, e6, e7, hd], hnx, hix, hx0, hm1, hm2, hz, hx, hs⟩ (.inr hxz)
    · obtain ⟨hd, hd2⟩ := dig_ne hxz
      have hw : IntKind.i64.wrap (m + 32) = m + 32 := wrap_i64_is rfl (by omega)
      have hm' : m < 0 := by omega
      obtain ⟨l1, hl1⟩ : ∃ l1, l1 = (dig x.natAbs).tail := ⟨_, rfl⟩
      have hll : l1.length ≤ 1100 := by rw [hl1]; simp; omega
      have llm : Lim l1 := by rw [hl1, ← List.drop_one]; exact (Lim.dig _).drop 1
      simp (disch := omega) [c71L2, e1, e2, e3, e4, e5, e6, e7, hm, hd, hd2, ← hl1]
      obtain ⟨y, hy⟩ : ∃ y, y = x.tdiv 4294967296 := ⟨_, rfl⟩
      have hya : y.natAbs = x.natAbs / 4294967296 := by rw [hy, Int.natAbs_tdiv]; rfl
      have hys : y.natAbs ≤ x.natAbs := by omega
      have hsg : y.natAbs ≠ 0 → decide (x < 0) = decide (y < 0) := by
        intro h
        have e : x.tdiv 4294967296 = shZ x (-32) := rfl
        rw [hy, e] at h ⊢
        exact shZ_sign _ _ h
      have hv1 : val l1 = y.natAbs := by
        rw [hl1, dig_pos (by omega), List.tail_cons, val_dig, hya]
      refine CallK.of (by simp) (Made_call' (by omega) _ ⟨i.f, i.g, i.off + 1⟩ l1 (by omega) llm y hv1 (by rw [hv1]; exact hsg) fun i' hi' => ?_)
      simp (disch := omega) [e1, e2, e3, e4, e5, e6, e7, hw]
      exact ⟨(m + 32).natAbs, by omega, y, m + 32, ⟨i', nx, by simp [At, e1, e2, e3, e4, e5, e6, e7], by omega, by rcases hi' with e | e <;> subst e <;> simp <;> omega, by omega, by omega, by omega, by rw [hy, shZ_down32 hm, hz], hx.le hys, hs⟩, by omega, rfl⟩
  · simp (disch := omega) [c71L2, e1, e2, e3, e4, e5, e6, e7, hm]
    exact RSb_1 hQ (x := x) (m := m) ⟨i, nx, by simp [At, e1, e2, e3, e4, e5, e6, e7], hnx, hix, hx0, hm1, hm2, hz, hx, hs⟩ h0
theorem RSb_3 {x m : Int} {s : St} (h : RS n z x m s) : GO Tryd.prog c71R3 (fin Tryd.prog [.cell 4 30] n Q) s := by
  simp only [c71R3]
  simp (disch := omega) []
  refine GO_loopN (fun k s => ∃ x m, RS n z x m s ∧ k = m.natAbs) m.natAbs ⟨x, m, h, rfl⟩ ?_
  clear h
  rintro k s ⟨x, m, h, rfl⟩
  have H := h
  obtain ⟨i, nx, ⟨e1, e2, e3, e4, e5⟩, hnx, hix, hx0, hm1, hm2, hz, hx, hs⟩ := h
  simp at e5
  obtain ⟨e5, e6, e7⟩ := e5
  have hl := hx.len
  by_cases hm : 0 < m
  · by_cases hxz : x = 0
    · have hd : dig x.natAbs = [] := by subst hxz; exact dig_zero
      simp (disch := omega) [c71L1, e1, e2, e3, e4, e5, e6, e7, hm, hd]
      exact RSb_2 hQ (x := x) (m := m) ⟨i, nx, by simp [At, e1, e2, e3, e4, e5, e6, e7, hd], hnx, hix, hx0, hm1, hm2, hz, hx, hs⟩ (.inr hxz)
    · obtain ⟨hd, hd2⟩ := dig_ne hxz
      have hw : IntKind.i64.wrap (m - 1) = m - 1 := wrap_i64_is rfl (by omega)
      simp (disch := omega) [c71L1, e1, e2, e3, e4, e5, e6, e7, hm, hd, hd2]
      obtain ⟨y, hy⟩ : ∃ y, y = x * 2 := ⟨_, rfl⟩
      have hyz : shZ y (m - 1) = z := by rw [hy, shZ_up1 hm, hz]
      refine CallK.of (by simp) (Double_call (by omega) _ i _ (by omega) (Lim.dig _) y (by rw [numW_dig, hy]) fun i' n' h1 h2 => ?_)
      simp (disch := omega) [e1, e2, e3, e4, e5, e6, e7, hw]
      exact ⟨(m - 1).natAbs, by omega, y, m - 1, ⟨i', n', by simp [At, e1, e2, e3, e4, e5, e6, e7], by omega, newSid_lt h2 (by omega), by omega, by omega, by omega, hyz, sz_of_shZ hyz hs (by omega), hs⟩, rfl⟩
  · simp (disch := omega) [c71L1, e1, e2, e3, e4, e5, e6, e7, hm]
    exact RSb_2 hQ (x := x) (m := m) ⟨i, nx, by simp [At, e1, e2, e3, e4, e5, e6, e7], hnx, hix, hx0, hm1, hm2, hz, hx, hs⟩ (.inl (by omega))
theorem RSb_4 {x m : Int} {s : St} (h : RS n z x m s) : GO Tryd.prog (.loop c71L0) (PExit.inBlock 0 (PExit.then (GO Tryd.prog c71R3 (fin Tryd.prog [.cell 4 30] n Q)) (fin Tryd.prog [.cell 4 30] n Q))) s := by
  refine GO_loopN (fun k s => ∃ x m, RS n z x m s ∧ k = m.natAbs) m.natAbs ⟨x, m, h, rfl⟩ ?_
  clear h
  rintro k s ⟨x, m, h, rfl⟩
  have H := h
  obtain ⟨i, nx, ⟨e1, e2, e3, e4, e5⟩, hnx, hix, hx0, hm1, hm2, hz, hx, hs⟩ := h
  simp at e5
  obtain ⟨e5, e6, e7⟩ := e5
  have hl := hx.len
  by_cases hm : 32 ≤ m
  · by_cases hxz : x = 0
    · have hd : dig x.natAbs = [] := by subst hxz; exact dig_zero
      simp (disch := omega) [c71L0, e1, e2, e3, e4, e5, e6, e7, hm, hd]
      exact RSb_3 hQ (x := x) (m := m) ⟨i, nx, by simp [At, e1, e2, e3, e4, e5, e6, e7, hd], hnx, hix, hx0, hm1, hm2, hz, hx, hs⟩ 
    · obtain ⟨hd, hd2⟩ := dig_ne hxz
      have hw : IntKind.i64.wrap (m - 32) = m - 32 := wrap_i64_is rfl (by omega)
      simp (disch := omega) [c71L0, e1, e2, e3, e4, e5, e6, e7, hm, hd, hd2]
      obtain ⟨y, hy⟩ : ∃ y, y = x * 4294967296 := ⟨_, rfl⟩
      have hyz : shZ y (m - 32) = z := by rw [hy, shZ_up32 hm, hz]
      refine ⟨by omega, ?_⟩
      refine CallK.of (by simp) (Made_call' (by omega) _ _ (0 :: dig x.natAbs) (by simp; omega) (by intro w hw; rcases List.mem_cons.1 hw with e | e; omega; exact Lim.dig _ w e) y (by rw [val_cons, val_dig, hy, Int.natAbs_mul]; simp; omega) (fun _ => by rw [hy, decide_eq_decide]; omega) fun i' hi' => ?_)
      simp (disch := omega) [e1, e2, e3, e4, e5, e6, e7, hw]
      exact ⟨(m - 32).natAbs, by omega, y, m - 32, ⟨i', nx + 2, by simp [At, e1, e2, e3, e4, e5, e6, e7], by omega, by rcases hi' with e | e <;> subst e <;> simp <;> omega, by omega, by omega, by omega, hyz, sz_of_shZ hyz hs (by omega), hs⟩, rfl⟩
  · simp (disch := omega) [c71L0, e1, e2, e3, e4, e5, e6, e7, hm]
    exact RSb_3 hQ (x := x) (m := m) ⟨i, nx, by simp [At, e1, e2, e3, e4, e5, e6, e7], hnx, hix, hx0, hm1, hm2, hz, hx, hs⟩ 
end
theorem RefShift2_call {n : Nat} (hn : 0 < n) (x : Int) (ia : Sid) (hia : ia.f < n) (hx : sz x 512) (m : Int) (hm : -16384 ≤ m ∧ m ≤ 16384) (z : Int) (hz : shZ x m = z) {Q : PV → Nat → List Nat → Prop}
    (hQ : ∀ (i : Sid) (n' : Nat), n ≤ n' → i.f < n' → Q (W (decide (z < 0)) i (dig z.natAbs)) n' []) : PCall Tryd.prog 71 [W (decide (x < 0)) ia (dig x.natAbs), .int .i64 m] n Q := by
  have hzs : sz z 1100 := (shZ_sz (j := 512) hz hx (by omega)).mono (by omega)
  simp only [W] at hQ
  refine of71 hn ?_
  simp (disch := omega) [c71]
  exact RSb_4 hQ (x := x) (m := m) ⟨ia, n, by simp [At], by omega, hia, by omega, by omega, by omega, hz, hx.mono (by omega), hzs⟩
theorem OIb_exit {n : Nat} {x e x1 : Int} {s : St} {Q : PV → Nat → List Nat → Prop} (h : OI n x e x1 s) (ho : x1.natAbs % 2 = 1)
    (hQ : ∀ (i' : Sid) (n' : Nat), n ≤ n' → i'.f < n' → Q (.agg [.bool (decide (dyM x < 0)), .sl i' 1 (u32s (dig (dyM x).natAbs)), .int .i64 (IntKind.i64.wrap (e + tz x.natAbs))]) n' []) : GO Tryd.prog c42R0 (fin Tryd.prog [.cell 4 32] n Q) s := by
  obtain ⟨i, nx, ⟨e1, e2, e3, e4, e5⟩, hnx, hix, hx0, hne, htz, hd, hs⟩ := h
  simp at e5
  obtain ⟨e5, e6, e7⟩ := e5
  have ht : tz x1.natAbs = 0 := tz_odd ho
  have hM : dyM x1 = x1 := by unfold dyM; rw [if_neg hne, ht]; simp [shZ]
  rw [hM] at hd
  rw [ht] at e5
  simp at e5
  have := hQ i nx hnx hix
  rw [← hd] at this
  simpa (disch := omega) [c42R0, e1, e2, e3, e4, e5, e6, e7] using ⟨by omega, this⟩
theorem OIb_1 {n : Nat} {x e x1 : Int} {s : St} {Q : PV → Nat → List Nat → Prop} (h : OI n x e x1 s) 
    (hQ : ∀ (i' : Sid) (n' : Nat), n ≤ n' → i'.f < n' → Q (.agg [.bool (decide (dyM x < 0)), .sl i' 1 (u32s (dig (dyM x).natAbs)), .int .i64 (IntKind.i64.wrap (e + tz x.natAbs))]) n' []) : GO Tryd.prog c42R1 (fin Tryd.prog [.cell 4 32] n Q) s := by
  simp only [c42R1]
  simp (disch := omega) []
  refine GO_loopN (fun k s => ∃ x1, OI n x e x1 s ∧ k = tz x1.natAbs) (tz x1.natAbs) ⟨x1, h, rfl⟩ ?_
  clear h x1
  rintro k s ⟨x1, h, rfl⟩
  have H := h
  obtain ⟨i, nx, ⟨e1, e2, e3, e4, e5⟩, hnx, hix, hx0, hne, htz, hd, hs⟩ := h
  simp only [List.mem_cons, List.not_mem_nil, or_false, forall_eq_or_imp, forall_eq] at e5
  obtain ⟨e5, e6, e7⟩ := e5
  have hl := hs.len
  obtain ⟨v, hv⟩ : ∃ v, v = IntKind.i64.wrap (e + (tz x.natAbs - tz x1.natAbs : Nat)) := ⟨_, rfl⟩
  rw [← hv] at e5
  simp (disch := omega) [c42L1, e1, e2, e3, e4, e5, e6, e7]
  refine CallK.of (by simp) (Odd_call (by omega) _ i _ (by omega) (Lim.dig _) ?_)
  rw [odd_dig]
  by_cases ho : x1.natAbs % 2 = 1
  · simp (disch := omega) [e1, e2, e3, e4, e5, e6, e7, ho]
    refine OIb_exit (x1 := x1) ⟨i, nx, ?_, hnx, hix, hx0, hne, htz, hd, hs⟩ ho hQ
    simp [At, e1, e2, e3, e4, e5, e6, e7, hv]
  · simp (disch := omega) [e1, e2, e3, e4, e5, e6, e7, ho]
    obtain ⟨k1, k2, k3, k4⟩ := tz_down (x := x1) (k := 1) hne (by simp; omega)
    rw [show (2 : Int) ^ 1 = 2 from rfl] at k1 k2 k3 k4
    obtain ⟨y, hy⟩ : ∃ y, y = x1.tdiv 2 := ⟨_, rfl⟩
    rw [← hy] at k1 k2 k3 k4
    refine CallK.of (by simp) (Half_call (by omega) _ i hix _ (by omega) (Lim.dig _) y (by rw [numW_dig, hy]) fun i' n' h1 h2 => ?_)
    have hw : IntKind.i64.wrap (v + 1) = IntKind.i64.wrap (e + (tz x.natAbs - tz y.natAbs : Nat)) := by
      rw [hv, wrap_i64_full, wrap_i64_full, wrap_i64_full]; omega
    simp (disch := omega) [-wrap_i64_at, e1, e2, e3, e4, e5, e6, e7]
    refine ⟨tz y.natAbs, by omega, y, ⟨i', n', ?_, by omega, newSid_lt h2 (by omega), by omega, k1, by omega, by rw [k3, hd], ?_⟩, rfl⟩
    · rw [← hw]
      simp [-wrap_i64_at, At, e1, e2, e3, e4, e5, e6, e7]
    · refine hs.le ?_
      rw [hy, Int.natAbs_tdiv]; exact Nat.div_le_self _ _
theorem OIb_0 {n : Nat} {x e x1 : Int} {s : St} {Q : PV → Nat → List Nat → Prop} (h : OI n x e x1 s) 
    (hQ : ∀ (i' : Sid) (n' : Nat), n ≤ n' → i'.f < n' → Q (.agg [.bool (decide (dyM x < 0)), .sl i' 1 (u32s (dig (dyM x).natAbs)), .int .i64 (IntKind.i64.wrap (e + tz x.natAbs))]) n' []) :
    GO Tryd.prog (.loop c42L0) (PExit.inBlock 0 (PExit.then (GO Tryd.prog c42R1 (fin Tryd.prog [.cell 4 32] n Q)) (fin Tryd.prog [.cell 4 32] n Q))) s := by
  refine GO_loopN (fun k s => ∃ x1, OI n x e x1 s ∧ k = tz x1.natAbs) (tz x1.natAbs) ⟨x1, h, rfl⟩ ?_
  clear h x1
  rintro k s ⟨x1, h, rfl⟩
  have H := h
  obtain ⟨i, nx, ⟨e1, e2, e3, e4, e5⟩, hnx, hix, hx0, hne, htz, hd, hs⟩ := h
  simp only [List.mem_cons, List.not_mem_nil, or_false, forall_eq_or_imp, forall_eq] at e5
  obtain ⟨e5, e6, e7⟩ := e5
  have hl := hs.len
  obtain ⟨hdl, hd2⟩ := dig_ne hne
  obtain ⟨v, hv⟩ : ∃ v, v = IntKind.i64.wrap (e + (tz x.natAbs - tz x1.natAbs : Nat)) := ⟨_, rfl⟩
  rw [← hv] at e5
  have hg0 : (dig x1.natAbs)[0] = x1.natAbs % 4294967296 := by
    have : ∀ (l : List Nat) (h : 0 < l.length) (y : Nat) (t : List Nat), l = y :: t → l[0] = y := by intro l h y t e; subst e; rfl
    exact this _ hdl _ _ (dig_pos (by omega))
  obtain ⟨g, hg⟩ : ∃ g, g = x1.natAbs % 4294967296 := ⟨_, rfl⟩
  rw [← hg] at hg0
  by_cases hz : g = 0
  · subst hz
    obtain ⟨l1, hl1⟩ : ∃ l1, l1 = (dig x1.natAbs).tail := ⟨_, rfl⟩
    have hll : l1.length ≤ 1100 := by rw [hl1]; simp; omega
    have llm : Lim l1 := by rw [hl1, ← List.drop_one]; exact (Lim.dig _).drop 1
    simp (disch := omega) [c42L0, e1, e2, e3, e4, e5, e6, e7, hdl, hd2, hg0, ← hl1]
    obtain ⟨k1, k2, k3, k4⟩ := tz_down (x := x1) (k := 32) hne (by rw [show (2 : Nat) ^ 32 = 4294967296 from rfl]; omega)
    rw [show (2 : Int) ^ 32 = 4294967296 from rfl] at k1 k2 k3 k4
    obtain ⟨y, hy⟩ : ∃ y, y = x1.tdiv 4294967296 := ⟨_, rfl⟩
    rw [← hy] at k1 k2 k3 k4
    have hya : y.natAbs = x1.natAbs / 4294967296 := by rw [hy, Int.natAbs_tdiv]; rfl
    have hv1 : val l1 = y.natAbs := by rw [hl1, dig_pos (by omega), List.tail_cons, val_dig, hya]
    refine CallK.of (by simp) (Made_call' (by omega) _ ⟨i.f, i.g, i.off + 1⟩ l1 (by omega) llm y hv1 (fun _ => k4) fun i' hi' => ?_)
    have hw : IntKind.i64.wrap (v + 32) = IntKind.i64.wrap (e + (tz x.natAbs - tz y.natAbs : Nat)) := by
      rw [hv, wrap_i64_full, wrap_i64_full, wrap_i64_full]; omega
    simp (disch := omega) [-wrap_i64_at, e1, e2, e3, e4, e5, e6, e7]
    refine ⟨tz y.natAbs, by omega, y, ⟨i', nx, ?_, by omega, by rcases hi' with e | e <;> subst e <;> simp <;> omega, by omega, k1, by omega, by rw [k3, hd], hs.le (by omega)⟩, rfl⟩
    rw [← hw]
    simp [-wrap_i64_at, At, e1, e2, e3, e4, e5, e6, e7]
  · simp (disch := omega) [c42L0, e1, e2, e3, e4, e5, e6, e7, hdl, hd2, hg0, hz]
    refine OIb_1 (x1 := x1) ⟨i, nx, ?_, hnx, hix, hx0, hne, htz, hd, hs⟩ hQ
    simp [At, e1, e2, e3, e4, e5, e6, e7, hv]
theorem RefOfD2_call {n : Nat} (hn : 0 < n) (x e : Int) (i : Sid) (hi : i.f < n) (hx : sz x 1100) (he : IntKind.i64.wrap e = e) {Q : PV → Nat → List Nat → Prop}
    (hQ : ∀ (i' : Sid) (n' : Nat), n ≤ n' → i'.f < n' → Q (D (decide (dyM x < 0)) i' (dig (dyM x).natAbs) (if x = 0 then 0 else IntKind.i64.wrap (e + tz x.natAbs))) n' []) : PCall Tryd.prog 42 [W (decide (x < 0)) i (dig x.natAbs), .int .i64 e] n Q := by
  refine of42 hn ?_
  by_cases h0 : x = 0
  · subst h0
    have := hQ ⟨0, 0, 0⟩ n (by omega) hn
    simp [dyM, dig_zero] at this
    simpa [c42, dig_zero] using this
  · obtain ⟨hdl, hd2⟩ := dig_ne h0
    simp only [if_neg h0, D] at hQ
    simp (disch := omega) [c42, hd2]
    refine OIb_0 (x := x) (x1 := x) ⟨i, n, ?_, by omega, hi, hn, h0, by omega, rfl, hx⟩ hQ
    rw [Nat.sub_self]
    simp [At, he]
theorem RefScaleD2_call {n : Nat} (hn : 0 < n) (x e b : Int) (ia : Sid) (hia : ia.f < n) (hx : sz x 512) (he : -16384 ≤ e ∧ e ≤ 16384) (hb : -32768 ≤ b ∧ b ≤ 32768) {Q : PV → Nat → List Nat → Prop}
    (hQ : ∀ (i' : Sid) (n' : Nat), n ≤ n' → i'.f < n' → Q (D (decide (dyM x < 0)) i' (dig (dyM x).natAbs) (if x = 0 then 0 else IntKind.i64.wrap (e + b + tz x.natAbs))) n' []) : PCall Tryd.prog 72 [D (decide (x < 0)) ia (dig x.natAbs) e, .int .i64 b] n Q := by
  refine of72 hn ?_
  simp (disch := omega) [c72]
  refine CallK.of (by simp) (RefOfD2_call (by omega) x (e + b) ia hia (hx.mono (by omega)) (wrap_i64_is rfl (by omega)) fun i2 n2 g2 b2 => ?_)
  have := hQ i2 n2 (by omega) b2
  simp only [D] at this
  simpa (disch := omega) [-wrap_i64_at, g2] using this
theorem RefAddD2_call {n : Nat} (hn : 0 < n) (x y e f : Int) (ia ib : Sid) (hia : ia.f < n) (hib : ib.f < n) (hx : sz x 255) (hy : sz y 255) (h1 : x = 0 → e = 0) (h2 : y = 0 → f = 0) (he : -16384 ≤ e ∧ e ≤ 16384) (hf : -16384 ≤ f ∧ f ≤ 16384) (hw : wideD x y e f = false) {Q : PV → Nat → List Nat → Prop}
    (hQ : ∀ (i' : Sid) (n' : Nat), n ≤ n' → i'.f < n' → Q (D (decide (dyM (sumZ x y e f) < 0)) i' (dig (dyM (sumZ x y e f)).natAbs) (if sumZ x y e f = 0 then 0 else lowE x y e f + tz (sumZ x y e f).natAbs)) n' []) : PCall Tryd.prog 73 [D (decide (x < 0)) ia (dig x.natAbs) e, D (decide (y < 0)) ib (dig y.natAbs) f] n Q := by
  have sz1 := sumZ_sz hx hy h1 h2 hw
  obtain ⟨q1, q2, q3⟩ := lowE_le h1 h2
  have hw' := hw
  unfold wideD at hw'
  rw [Bool.or_eq_false_iff] at hw'
  obtain ⟨E, hE⟩ : ∃ E, E = lowE x y e f := ⟨_, rfl⟩
  obtain ⟨z, hz⟩ : ∃ z, z = sumZ x y e f := ⟨_, rfl⟩
  have hsum : lev x e E + lev y f E = z := by rw [hz]; unfold sumZ; rw [hE]
  have hEb : -16384 ≤ E ∧ E ≤ 16384 := by rw [hE]; unfold lowE; split <;> (try split) <;> omega
  rw [← hE] at q1 q2 hw' hQ
  rw [← hz] at hQ sz1
  have hxe : x ≠ 0 → -16384 ≤ e - E ∧ e - E ≤ 16384 := fun h => by
    have := q1 h
    have h3 := hw'.1
    unfold widE at h3
    simp [h] at h3
    omega
  have hyf : y ≠ 0 → -16384 ≤ f - E ∧ f - E ≤ 16384 := fun h => by
    have := q2 h
    have h3 := hw'.2
    unfold widE at h3
    simp [h] at h3
    omega
  have hlx : sz (lev x e E) 512 := by
    by_cases h : x = 0
    · subst h; have : ∀ q, lev 0 q E = 0 := fun q => by simp [lev]
      rw [this]; exact sz_zero 512
    · exact lev_sz (q1 h) hw'.1
  have hly : sz (lev y f E) 512 := by
    by_cases h : y = 0
    · subst h; have : ∀ q, lev 0 q E = 0 := fun q => by simp [lev]
      rw [this]; exact sz_zero 512
    · exact lev_sz (q2 h) hw'.2
  have l1 := hlx.len
  have l2 := hly.len
  refine of73 hn ?_
  simp (disch := omega) [c73]
  refine CallK.of (by simp) (Low_call hn x y e f ia ib (hx.mono (by omega)) (hy.mono (by omega)) ?_)
  rw [← hE]
  simp (disch := omega) []
  refine CallK.of (by simp) (Level_call hn x e E ia hia (hx.mono (by omega)) hxe (by omega) fun i1 n1 g1 => ?_)
  simp (disch := omega) [g1]
  refine CallK.of (by simp) (Level_call (by omega) y f E ib (by omega) (hy.mono (by omega)) hyf (by omega) fun i2 n2 g2 => ?_)
  simp (disch := omega) [g1, g2]
  refine CallK.of (by simp) (refAdd_call (by omega) _ _ i1 i2 _ _ (by omega) (by omega) (Lim.dig _) (Lim.dig _) z (by rw [numW_dig, numW_dig, hsum]) fun i3 n3 g3 d3 => ?_)
  simp (disch := omega) [g1, g2, g3]
  refine CallK.of (by simp) (RefOfD2_call (by omega) z E i3 (newSid_lt d3 (by omega)) (sz1.mono (by omega)) (wrap_i64_is rfl (by omega)) fun i4 n4 g4 b4 => ?_)
  rw [wrapE sz1 (by omega)]
  have := hQ i4 n4 (by omega) b4
  simp only [D] at this
  simpa (disch := omega) [-wrap_i64_at, g1, g2, g3, g4] using ⟨by omega, this⟩
theorem RefSubD2_call {n : Nat} (hn : 0 < n) (x y e f : Int) (ia ib : Sid) (hia : ia.f < n) (hib : ib.f < n) (hx : sz x 255) (hy : sz y 255) (h1 : x = 0 → e = 0) (h2 : y = 0 → f = 0) (he : -16384 ≤ e ∧ e ≤ 16384) (hf : -16384 ≤ f ∧ f ≤ 16384) (hw : wideD x y e f = false) {Q : PV → Nat → List Nat → Prop}
    (hQ : ∀ (i' : Sid) (n' : Nat), n ≤ n' → i'.f < n' → Q (D (decide (dyM (sumZ x (-y) e f) < 0)) i' (dig (dyM (sumZ x (-y) e f)).natAbs) (if sumZ x (-y) e f = 0 then 0 else lowE x y e f + tz (sumZ x (-y) e f).natAbs)) n' []) : PCall Tryd.prog 56 [D (decide (x < 0)) ia (dig x.natAbs) e, D (decide (y < 0)) ib (dig y.natAbs) f] n Q := by
  have hw2 := wideD_neg x y e f
  have hlow := lowE_neg x y e f
  rw [← hlow] at hQ
  rw [hw] at hw2
  have hy2 := sz_neg hy
  refine of56 hn ?_
  simp (disch := omega) [c56]
  refine CallK.of (by simp) (RefNegD_call hn y f ib hib (hy.mono (by omega)) fun i' hi' => ?_)
  have hq0 : -y = 0 → f = 0 := fun h => h2 (by omega)
  generalize -y = y' at *
  simp (disch := omega) []
  refine CallK.of (by simp) (RefAddD2_call hn x y' e f ia i' hia hi' hx hy2 h1 hq0 he hf hw2 fun i1 n1 g1 b1 => ?_)
  have := hQ i1 n1 g1 b1
  simp only [D] at this
  simpa (disch := omega) [g1] using this
end Go.Proofs.YtdaoblhmnafllaaDoor
