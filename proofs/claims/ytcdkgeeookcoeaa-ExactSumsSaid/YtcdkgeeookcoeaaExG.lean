/- Determinants and minors, the program's, by value. -/
import Derived.Test.YtcdkgeeookcoeaaExF
set_option linter.unusedVariables false
set_option linter.unusedSimpArgs false
namespace Go.Proofs.Ytcdkgeeookcoeaa
open Go.Proofs

def Sids (n : Nat) (M : List Rw) : Prop := ∀ r, r ∈ M → r.i.f < n ∧ ∀ e, e ∈ r.es → e.i.f < n
theorem Sids.mono {n n' : Nat} {M : List Rw} (h : Sids n M) (hn : n ≤ n') : Sids n' M := fun r hr => ⟨Nat.lt_of_lt_of_le (h r hr).1 hn, fun e he => Nat.lt_of_lt_of_le ((h r hr).2 e he) hn⟩
theorem chk_ok {M : List Rw} (h : chk M = 0) : M.length ≤ 6 ∧ M.all (rowB (widthR M)) = true ∧ rightM M = true ∧ lngM M = false := by
  unfold chk at h
  split at h
  · omega
  · split at h
    · split at h
      · split at h
        · omega
        · rename_i h1 h2 h3 h4
          exact ⟨by omega, h2, h3, by simpa using h4⟩
      · omega
    · omega
theorem mx_of {n m : Nat} {M : List Rw} (h : chk M = 0) (hl : lightM m M = true) (hf : Fits M) (hs : Sids n M) : MxOk n (widthR M) m M ∧ M.length ≤ 6 ∧ widthR M ≤ 6 := by
  obtain ⟨h1, h2, h3, _⟩ := chk_ok h
  refine ⟨fun r hr => ?_, h1, ?_⟩
  · have a := List.all_eq_true.1 h2 r hr
    have b := List.all_eq_true.1 (List.all_eq_true.1 h3 r hr)
    have c := List.all_eq_true.1 (List.all_eq_true.1 hl r hr)
    simp only [rowB, Bool.and_eq_true, decide_eq_true_eq] at a
    refine ⟨(hs r hr).1, a.2, fun e he => ⟨(hs r hr).2 e he, b e he, ((hf.2 r hr).2 e he).2, ?_⟩⟩
    have hb := b e he
    have hc := c e he
    unfold entB at hb
    simp only [shortE, hb, Bool.and_true, Bool.not_eq_true', decide_eq_false_iff_not] at hc
    omega
  · cases M with
    | nil => simp [widthR]
    | cons r M =>
      have a := List.all_eq_true.1 h2 r (by simp)
      simp only [rowB, Bool.and_eq_true, decide_eq_true_eq] at a
      exact a.1
theorem chk_lt (M : List Rw) : 0 ≤ chk M ∧ chk M ≤ 3 := by
  unfold chk
  split
  · omega
  · split
    · split
      · split <;> omega
      · omega
    · omega

theorem Det_err {n : Nat} (hn : 0 < n) (i : Sid) (M : List Rw) (hM : Fits M) (h : chk M ≠ 0) {Q : PV → Nat → List Nat → Prop}
    (hQ : Q (.tup [W false ⟨0, 0, 0⟩ [], .int .i64 (chk M)]) n []) : PCall Try.prog 13 [.sl i 1 (M.map Rw.pv)] n Q := by
  refine of13 hn ?_
  simp (disch := omega) [c13]
  refine CallK.of (by simp) (CheckM_call hn i M hM ?_)
  have h' : (chk M != 0) = true := by simpa using h
  simpa (disch := omega) [W, h, h'] using hQ
theorem width_at {M : List Rw} {r : Rw} (h : M[0]? = some r) : r.es.length = widthR M := by
  cases M with
  | nil => simp at h
  | cons q M => simp at h; rw [h]; rfl
theorem Det_shape {n : Nat} (hn : 0 < n) (i : Sid) (M : List Rw) (hM : Fits M) (h : chk M = 0) (h0 : 0 < M.length) (hw : widthR M ≠ M.length) {Q : PV → Nat → List Nat → Prop}
    (hQ : Q (.tup [W false ⟨0, 0, 0⟩ [], .int .i64 3]) n []) : PCall Try.prog 13 [.sl i 1 (M.map Rw.pv)] n Q := by
  refine of13 hn ?_
  have hl := (chk_ok h).1
  have hw0 := width_get h0
  have hwl : M[0].es.length < 35184372088800 := (hM.2 _ (List.getElem_mem _)).1
  rw [hw0] at hwl
  simp (disch := omega) [c13]
  refine CallK.of (by simp) (CheckM_call hn i M hM ?_)
  simpa (disch := omega) [W, h, h0, hw0, hw] using hQ
theorem Det_ok {n : Nat} (hn : 0 < n) (i : Sid) (M : List Rw) (hM : Fits M) (h : chk M = 0) (hm : MxOk n (widthR M) 10 M) (hw : 0 < M.length → widthR M = M.length) {Q : PV → Nat → List Nat → Prop}
    (hQ : ∀ (i : Sid) (n' : Nat), n ≤ n' → newSid n n' i → Q (.tup [W (decide (Dt (M.map Rw.f) (List.range M.length) < 0)) i (dig (Dt (M.map Rw.f) (List.range M.length)).natAbs), .int .i64 0]) n' []) : PCall Try.prog 13 [.sl i 1 (M.map Rw.pv)] n Q := by
  refine of13 hn ?_
  have hl := (chk_ok h).1
  simp (disch := omega) [c13]
  refine CallK.of (by simp) (CheckM_call hn i M hM ?_)
  by_cases h0 : 0 < M.length
  · have hw0 := width_get h0
    have hw1 := hw h0
    rw [hw1] at hw0
    simp (disch := omega) [h, h0, hw0]
    refine CallK.of (by simp) (first_call hn M.length (by omega) fun i1 n1 g1 d1 => ?_)
    simp (disch := omega) [h, h0, hw0, g1]
    refine CallK.of (by simp) (det_call (by omega) i i1 M (List.range M.length) (widthR M) (hm.mono g1) (by simpa using hl) (by simp) (fun c hc => by rw [hw1]; simpa using hc) fun i2 n2 g2 d2 => ?_)
    simpa (disch := omega) [W, show n ≤ n2 by omega] using hQ i2 n2 (by omega) (d2.le g1)
  · have hM0 : M = [] := by cases M <;> simp at h0 ⊢
    subst hM0
    simp (disch := omega) [h]
    refine CallK.of (by simp) (first_call hn 0 (by omega) fun i1 n1 g1 d1 => ?_)
    simp (disch := omega) [h, g1]
    refine CallK.of (by simp) (det_call (by omega) i i1 [] [] 0 (fun r hr => by simp at hr) (by simp) rfl (by simp) fun i2 n2 g2 d2 => ?_)
    simpa (disch := omega) [W, show n ≤ n2 by omega] using hQ i2 n2 (by omega) (d2.le g1)

/-! ### minors -/
theorem Minor_err {n : Nat} (hn : 0 < n) (i ia ic : Sid) (M : List Rw) (a c : List Int) (hM : Fits M) (h : chk M ≠ 0) {Q : PV → Nat → List Nat → Prop}
    (hQ : Q (.tup [W false ⟨0, 0, 0⟩ [], .int .i64 (chk M)]) n []) : PCall Try.prog 24 [.sl i 1 (M.map Rw.pv), .sl ia 1 (ints a), .sl ic 1 (ints c)] n Q := by
  refine of24 hn ?_
  simp (disch := omega) [c24]
  refine CallK.of (by simp) (CheckM_call hn i M hM ?_)
  have h' : (chk M != 0) = true := by simpa using h
  simpa (disch := omega) [W, h, h'] using hQ
theorem width_lt {M : List Rw} (hM : Fits M) : widthR M < 35184372088800 := by
  cases M with
  | nil => simp [widthR]
  | cons r M => exact (hM.2 r (by simp)).1
theorem riseB_lt {l : List Int} {w : Nat} (h : riseB l w = true) : ∀ x, x ∈ l → 0 ≤ x ∧ x < w := by
  intro x hx
  obtain ⟨j, hj, rfl⟩ := List.mem_iff_getElem.1 hx
  have := List.all_eq_true.1 h j (by simpa using hj)
  have e : l.getD j 0 = l[j] := by simp [List.getD, hj]
  unfold riseAt at this
  rw [e] at this
  simp only [Bool.and_eq_true, decide_eq_true_eq] at this
  omega
theorem riseB_len {l : List Int} {w : Nat} (h : riseB l w = true) : l.length ≤ w := by
  have key : ∀ j, j < l.length → (j : Int) ≤ l.getD j 0 := by
    intro j
    induction j with
    | zero =>
      intro hj
      have := List.all_eq_true.1 h 0 (by simpa using hj)
      unfold riseAt at this
      simp only [Bool.and_eq_true, decide_eq_true_eq] at this
      exact this.1.1
    | succ j ih =>
      intro hj
      have := List.all_eq_true.1 h (j + 1) (by simpa using hj)
      unfold riseAt at this
      simp only [Bool.and_eq_true, Bool.or_eq_true, decide_eq_true_eq, Nat.add_sub_cancel] at this
      have := ih (by omega)
      omega
  rcases Nat.eq_zero_or_pos l.length with e | e
  · omega
  · have h1 := key (l.length - 1) (by omega)
    have h2 := (riseB_lt h l[l.length - 1] (List.getElem_mem _)).2
    have e2 : l.getD (l.length - 1) 0 = l[l.length - 1] := by simp [List.getD, show l.length - 1 < l.length by omega]
    rw [e2] at h1
    omega
def minE (M : List Rw) (a c : List Int) : Int := if riseB a M.length = true ∧ riseB c (widthR M) = true then (if a.length = c.length then 0 else 3) else 1
theorem Minor_no {n : Nat} (hn : 0 < n) (i ia ic : Sid) (M : List Rw) (a c : List Int) (hM : Fits M) (ha : a.length < 35184372088800) (hc : c.length < 35184372088800) (h : chk M = 0) (hE : minE M a c ≠ 0) {Q : PV → Nat → List Nat → Prop}
    (hQ : Q (.tup [W false ⟨0, 0, 0⟩ [], .int .i64 (minE M a c)]) n []) : PCall Try.prog 24 [.sl i 1 (M.map Rw.pv), .sl ia 1 (ints a), .sl ic 1 (ints c)] n Q := by
  refine of24 hn ?_
  have hl := (chk_ok h).1
  have hwl := width_lt hM
  simp (disch := omega) [c24]
  refine CallK.of (by simp) (CheckM_call hn i M hM ?_)
  simp (disch := omega) [h]
  refine CallK.of (by simp) (rising_call hn ia a M.length ha ?_)
  unfold minE at hQ hE
  by_cases h1 : riseB a M.length = true
  · simp (disch := omega) [h1]
    refine CallK.of (by simp) (width_call hn i M (by omega) hwl ?_)
    simp (disch := omega) [h1]
    refine CallK.of (by simp) (rising_call hn ic c (widthR M) hc ?_)
    by_cases h2 : riseB c (widthR M) = true
    · by_cases h3 : a.length = c.length
      · simp [h1, h2, h3] at hE
      · rw [if_pos ⟨h1, h2⟩, if_neg h3] at hQ
        simpa (disch := omega) [W, h1, h2, h3] using hQ
    · rw [if_neg (fun e => h2 e.2)] at hQ
      simpa (disch := omega) [W, h1, h2] using hQ
  · rw [if_neg (fun e => h1 e.1)] at hQ
    simpa (disch := omega) [W, h1] using hQ
def nats (l : List Int) : List Nat := l.map Int.toNat
theorem Minor_ok {n : Nat} (hn : 0 < n) (i ia ic : Sid) (M : List Rw) (a c : List Int) (hM : Fits M) (ha : a.length < 35184372088800) (hc : c.length < 35184372088800) (h : chk M = 0) (hE : minE M a c = 0) (hm : MxOk n (widthR M) 10 M) {Q : PV → Nat → List Nat → Prop}
    (hQ : ∀ (i : Sid) (n' : Nat), n ≤ n' → newSid n n' i → Q (.tup [W (decide (Dt ((pickR M (nats a)).map Rw.f) (nats c) < 0)) i (dig (Dt ((pickR M (nats a)).map Rw.f) (nats c)).natAbs), .int .i64 0]) n' []) : PCall Try.prog 24 [.sl i 1 (M.map Rw.pv), .sl ia 1 (ints a), .sl ic 1 (ints c)] n Q := by
  refine of24 hn ?_
  have hl := (chk_ok h).1
  have hwl := width_lt hM
  unfold minE at hE
  split at hE
  · rename_i h12
    split at hE
    · rename_i h3
      obtain ⟨h1, h2⟩ := h12
      simp (disch := omega) [c24]
      refine CallK.of (by simp) (CheckM_call hn i M hM ?_)
      simp (disch := omega) [h]
      refine CallK.of (by simp) (rising_call hn ia a M.length ha ?_)
      simp (disch := omega) [h1]
      refine CallK.of (by simp) (width_call hn i M (by omega) hwl ?_)
      simp (disch := omega) [h1]
      refine CallK.of (by simp) (rising_call hn ic c (widthR M) hc ?_)
      have l1 := riseB_len h1
      have la := riseB_lt h1
      have lc := riseB_lt h2
      have hne : binPV Try.prog .neq 3 (.int .i64 (a.length : Int)) (.int .i64 (c.length : Int)) = some (.bool false) := by rw [binPV_neq, h3]; simp
      rw [ints_i64s fun x hx => (la x hx).1, ints_i64s fun x hx => (lc x hx).1]
      simp (disch := omega) [-binPV_neq, h1, h2, hne]
      refine CallK.of (by simp) (some_call hn i ia M (a.map Int.toNat) (by omega) (by simp; omega) (fun j hj => by obtain ⟨x, hx, rfl⟩ := List.mem_map.1 hj; have := la x hx; omega) fun i1 n1 g1 d1 => ?_)
      simp (disch := omega) [h1, h2, g1]
      refine CallK.of (by simp) (det_call (by omega) i1 ic (pickR M (a.map Int.toNat)) (c.map Int.toNat) (widthR M) (fun r hr => ?_) (by simp; omega) (by simp [pickR, h3]) (fun x hx => by obtain ⟨y, hy, rfl⟩ := List.mem_map.1 hx; have := lc y hy; omega) fun i2 n2 g2 d2 => ?_)
      · obtain ⟨j, hj, rfl⟩ := List.mem_map.1 hr
        obtain ⟨x, hx, rfl⟩ := List.mem_map.1 hj
        have hxM : x.toNat < M.length := by have := la x hx; omega
        have e : M.getD x.toNat default = M[x.toNat] := by simp [List.getD, hxM]
        rw [e]
        exact (hm _ (List.getElem_mem _)).mono g1
      · have hh := hQ i2 n2 (by omega) (d2.le g1)
        simp only [nats, W] at hh
        simp (disch := omega) [show n ≤ n2 by omega]
        exact hh
    · omega
  · omega
end Go.Proofs.Ytcdkgeeookcoeaa
