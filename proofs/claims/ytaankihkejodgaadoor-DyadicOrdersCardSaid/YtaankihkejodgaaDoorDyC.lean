/- What the functions of layer 2 do, by value: right numbers, the reference's numbers. -/
import Derived.Test.YtaankihkejodgaaDoorDyB
set_option linter.unusedVariables false
set_option linter.unusedSimpArgs false
namespace Go.Proofs.YtaankihkejodgaaDoor
open Go.Proofs

/-- Is a number odd? -/
def oddL (l : List Nat) : Bool := decide (l.getD 0 0 % 2 = 1)
theorem Odd_call {n : Nat} (hn : 0 < n) (neg : Bool) (i : Sid) (l : List Nat) (hl : l.length < 35184372088800) (ll : Lim l) {Q : PV → Nat → List Nat → Prop} (hQ : Q (.bool (oddL l)) n []) : PCall Tryd.prog 38 [W neg i l] n Q := by
  refine of38 hn ?_
  cases l with
  | nil => simpa [c38, oddL] using hQ
  | cons x t =>
    have hx := ll.head
    have h1 : (0 : Nat) < (x :: t).length := by simp
    have h2 : IntKind.u32.wrap ((x : Int).tmod 2) = (x : Int) % 2 := by rw [Int.tmod_eq_emod_of_nonneg (by omega), wrap_u32_eq]; omega
    have h3 : (x : Int).tmod 2 = ((x % 2 : Nat) : Int) := by rw [Int.tmod_eq_emod_of_nonneg (by omega)]; omega
    by_cases ho : x % 2 = 1
    · simp [oddL, ho] at hQ
      have h4 : (x : Int).tmod 2 = 1 := by rw [Int.tmod_eq_emod_of_nonneg (by omega)]; omega
      simpa (disch := omega) [c38, h1, h4] using hQ
    · simp [oddL, ho] at hQ
      have h4 : (x : Int).tmod 2 = 0 := by rw [Int.tmod_eq_emod_of_nonneg (by omega)]; omega
      simpa (disch := omega) [c38, h1, h4] using hQ

def rightD (neg : Bool) (l : List Nat) (e : Int) : Bool := rightW neg l && (if l = [] then decide (e = 0) else oddL l && (decide (-16384 ≤ e) && decide (e ≤ 16384)))
theorem RightD_call {n : Nat} (hn : 0 < n) (neg : Bool) (i : Sid) (l : List Nat) (e : Int) (hl : l.length < 35184372088800) (ll : Lim l) {Q : PV → Nat → List Nat → Prop} (hQ : Q (.bool (rightD neg l e)) n []) : PCall Tryd.prog 15 [D neg i l e] n Q := by
  unfold rightD at hQ
  refine of15 hn ?_
  simp (disch := omega) [c15]
  refine CallK.of (by simp) (Right_call hn neg i l (by omega) ?_)
  by_cases hr : rightW neg l = true
  · simp only [hr] at hQ
    by_cases h0 : l = []
    · subst h0
      by_cases he : e = 0
      · subst he
        simpa [hr] using hQ
      · have he' : (e == 0) = false := by simpa using he
        simp [he] at hQ
        simpa [hr, he, he'] using hQ
    · simp (disch := omega) [hr, h0]
      refine CallK.of (by simp) (Odd_call hn neg i l (by omega) ll ?_)
      simp only [if_neg h0] at hQ
      cases ho : oddL l
      · simp [ho] at hQ; simpa [ho] using hQ
      · by_cases h1 : -16384 ≤ e
        · simp [ho, h1] at hQ; simpa [ho, h1] using hQ
        · simp [ho, h1] at hQ; simpa [ho, h1] using hQ
  · rw [Bool.not_eq_true] at hr
    simp [hr] at hQ
    simpa [hr] using hQ

theorem SameD_call {n : Nat} (hn : 0 < n) (na nb : Bool) (ia ib : Sid) (a b : List Nat) (e f : Int) (ha : a.length < 35184372088800) {Q : PV → Nat → List Nat → Prop} (hQ : Q (.bool (decide (e = f) && (na == nb && decide (a = b)))) n []) : PCall Tryd.prog 29 [D na ia a e, D nb ib b f] n Q := by
  refine of29 hn ?_
  by_cases h : e = f
  · subst h
    simp at hQ
    simp (disch := omega) [c29]
    refine CallK.of (by simp) (Same_call hn na nb ia ib a b (by omega) ?_)
    simpa using hQ
  · have h' : (e == f) = false := by simpa using h
    simp [h] at hQ
    simpa [c29, h, h'] using hQ

theorem wrap_i64_full (x : Int) : IntKind.i64.wrap x = (x + 9223372036854775808) % 18446744073709551616 - 9223372036854775808 := by
  simp [IntKind.wrap, IntKind.bits, IntKind.signed]; omega
theorem odd_dig {x : Int} : oddL (dig x.natAbs) = decide (x.natAbs % 2 = 1) := by
  by_cases h : x = 0
  · subst h; simp [oddL, dig_zero]
  · rw [oddL, dig_pos (by omega)]
    have : x.natAbs % 4294967296 % 2 = x.natAbs % 2 := by omega
    simp [List.getD, this]
theorem tz_down {x : Int} {k : Nat} (h0 : x ≠ 0) (hk : x.natAbs % 2 ^ k = 0) : x.tdiv (2 ^ k) ≠ 0 ∧ tz x.natAbs = k + tz (x.tdiv (2 ^ k)).natAbs ∧ dyM (x.tdiv (2 ^ k)) = dyM x ∧ decide (x < 0) = decide (x.tdiv (2 ^ k) < 0) := by
  have hP : 0 < 2 ^ k := Nat.pos_of_ne_zero (by simp)
  have ha : (x.tdiv (2 ^ k)).natAbs = x.natAbs / 2 ^ k := by rw [Int.natAbs_tdiv, natAbs_two_pow]; rfl
  have hm : x.natAbs = 2 ^ k * (x.natAbs / 2 ^ k) := by have := Nat.div_add_mod x.natAbs (2 ^ k); omega
  have hne : x.natAbs / 2 ^ k ≠ 0 := fun e => by rw [e] at hm; simp at hm; omega
  have h1 : x.tdiv (2 ^ k) ≠ 0 := fun e => hne (by rw [← ha, e]; rfl)
  obtain ⟨o, ho1, ho2⟩ := tz_split hne
  have htz : tz x.natAbs = k + tz (x.natAbs / 2 ^ k) := by
    have hm2 : x.natAbs = 2 ^ (k + tz (x.natAbs / 2 ^ k)) * o := by
      rw [Nat.pow_add, Nat.mul_assoc, ← ho2]; exact hm
    have := congrArg tz hm2
    rwa [tz_mul _ ho1] at this
  refine ⟨h1, by rw [ha]; exact htz, ?_, ?_⟩
  · unfold dyM
    rw [if_neg h1, if_neg h0, ha]
    have := shZ_down x k (tz x.natAbs) (by omega)
    rw [show tz x.natAbs - k = tz (x.natAbs / 2 ^ k) by omega] at this
    rw [this]
    unfold shZ
    by_cases hz : tz x.natAbs = 0
    · rw [if_pos (by omega), hz]; simp
    · rw [if_neg (by omega), Int.neg_neg, Int.toNat_natCast]
  · by_cases hk0 : k = 0
    · subst hk0; simp
    · have e : x.tdiv (2 ^ k) = shZ x (-(k : Int)) := by unfold shZ; rw [if_neg (by omega), Int.neg_neg, Int.toNat_natCast]
      rw [e]
      refine shZ_sign _ _ ?_
      rw [← e, ha]; exact hne

/-- Before a round of the reference's loops. -/
def OI (n : Nat) (x e x1 : Int) (s : St) : Prop :=
  ∃ (i : Sid) (nx : Nat), At s 33 [[.bool (decide (x1 < 0)), .sl i 1 (u32s (dig x1.natAbs))], [.bool false, .sl ⟨0, 0, 0⟩ 1 [], .int .i64 0]] nx [(1, .int .i64 (IntKind.i64.wrap (e + (tz x.natAbs - tz x1.natAbs : Nat)))), (2, .box 0 0), (4, .box 1 0)] ∧ n ≤ nx ∧ i.f < nx ∧ 0 < nx ∧ x1 ≠ 0 ∧ tz x1.natAbs ≤ tz x.natAbs ∧ dyM x1 = dyM x ∧ sz x1 1100
theorem OI_exit {n : Nat} {x e x1 : Int} {s : St} {Q : PV → Nat → List Nat → Prop} (h : OI n x e x1 s) (ho : x1.natAbs % 2 = 1)
    (hQ : ∀ (i' : Sid) (n' : Nat), n ≤ n' → Q (.agg [.bool (decide (dyM x < 0)), .sl i' 1 (u32s (dig (dyM x).natAbs)), .int .i64 (IntKind.i64.wrap (e + tz x.natAbs))]) n' []) : GO Tryd.prog c13R0 (fin Tryd.prog [.cell 4 28] n Q) s := by
  obtain ⟨i, nx, ⟨e1, e2, e3, e4, e5⟩, hnx, hix, hx0, hne, htz, hd, hs⟩ := h
  simp at e5
  obtain ⟨e5, e6, e7⟩ := e5
  have ht : tz x1.natAbs = 0 := tz_odd ho
  have hM : dyM x1 = x1 := by unfold dyM; rw [if_neg hne, ht]; simp [shZ]
  rw [hM] at hd
  rw [ht] at e5
  simp at e5
  have := hQ i nx hnx
  rw [← hd] at this
  simpa (disch := omega) [c13R0, e1, e2, e3, e4, e5, e6, e7] using ⟨by omega, this⟩
theorem OI_1 {n : Nat} {x e x1 : Int} {s : St} {Q : PV → Nat → List Nat → Prop} (h : OI n x e x1 s) 
    (hQ : ∀ (i' : Sid) (n' : Nat), n ≤ n' → Q (.agg [.bool (decide (dyM x < 0)), .sl i' 1 (u32s (dig (dyM x).natAbs)), .int .i64 (IntKind.i64.wrap (e + tz x.natAbs))]) n' []) : GO Tryd.prog c13R1 (fin Tryd.prog [.cell 4 28] n Q) s := by
  simp only [c13R1]
  simp (disch := omega) []
  refine GO_loopN (fun k s => ∃ x1, OI n x e x1 s ∧ k = tz x1.natAbs) (tz x1.natAbs) ⟨x1, h, rfl⟩ ?_
  clear h x1
  rintro k s ⟨x1, h, rfl⟩
  have H := h
  obtain ⟨i, nx, ⟨e1, e2, e3, e4, e5⟩, hnx, hix, hx0, hne, htz, hd, hs⟩ := h
  simp only [List.mem_cons, List.not_mem_nil, or_false, forall_eq_or_imp, forall_eq] at e5
  obtain ⟨e5, e6, e7⟩ := e5
  have hl := hs.len
  obtain ⟨v, hv⟩ : ∃ v, v = IntKind.i64.wrap (e + (tz x.natAbs - tz x1.natAbs : Nat)) := ⟨_, rfl⟩
  rw [← hv] at e5
  simp (disch := omega) [c13L1, e1, e2, e3, e4, e5, e6, e7]
  refine CallK.of (by simp) (Odd_call (by omega) _ i _ (by omega) (Lim.dig _) ?_)
  rw [odd_dig]
  by_cases ho : x1.natAbs % 2 = 1
  · simp (disch := omega) [e1, e2, e3, e4, e5, e6, e7, ho]
    refine OI_exit (x1 := x1) ⟨i, nx, ?_, hnx, hix, hx0, hne, htz, hd, hs⟩ ho hQ
    simp [At, e1, e2, e3, e4, e5, e6, e7, hv]
  · simp (disch := omega) [e1, e2, e3, e4, e5, e6, e7, ho]
    obtain ⟨k1, k2, k3, k4⟩ := tz_down (x := x1) (k := 1) hne (by simp; omega)
    rw [show (2 : Int) ^ 1 = 2 from rfl] at k1 k2 k3 k4
    obtain ⟨y, hy⟩ : ∃ y, y = x1.tdiv 2 := ⟨_, rfl⟩
    rw [← hy] at k1 k2 k3 k4
    refine CallK.of (by simp) (Half_call (by omega) _ i hix _ (by omega) (Lim.dig _) y (by rw [numW_dig, hy]) fun i' n' h1 h2 => ?_)
    have hw : IntKind.i64.wrap (v + 1) = IntKind.i64.wrap (e + (tz x.natAbs - tz y.natAbs : Nat)) := by
      rw [hv, wrap_i64_full, wrap_i64_full, wrap_i64_full]; omega
    simp (disch := omega) [-wrap_i64_at, e1, e2, e3, e4, e5, e6, e7]
    refine ⟨tz y.natAbs, by omega, y, ⟨i', n', ?_, by omega, newSid_lt h2 (by omega), by omega, k1, by omega, by rw [k3, hd], ?_⟩, rfl⟩
    · rw [← hw]
      simp [-wrap_i64_at, At, e1, e2, e3, e4, e5, e6, e7]
    · refine hs.le ?_
      rw [hy, Int.natAbs_tdiv]; exact Nat.div_le_self _ _
theorem OI_0 {n : Nat} {x e x1 : Int} {s : St} {Q : PV → Nat → List Nat → Prop} (h : OI n x e x1 s) 
    (hQ : ∀ (i' : Sid) (n' : Nat), n ≤ n' → Q (.agg [.bool (decide (dyM x < 0)), .sl i' 1 (u32s (dig (dyM x).natAbs)), .int .i64 (IntKind.i64.wrap (e + tz x.natAbs))]) n' []) :
    GO Tryd.prog (.loop c13L0) (PExit.inBlock 0 (PExit.then (GO Tryd.prog c13R1 (fin Tryd.prog [.cell 4 28] n Q)) (fin Tryd.prog [.cell 4 28] n Q))) s := by
  refine GO_loopN (fun k s => ∃ x1, OI n x e x1 s ∧ k = tz x1.natAbs) (tz x1.natAbs) ⟨x1, h, rfl⟩ ?_
  clear h x1
  rintro k s ⟨x1, h, rfl⟩
  have H := h
  obtain ⟨i, nx, ⟨e1, e2, e3, e4, e5⟩, hnx, hix, hx0, hne, htz, hd, hs⟩ := h
  simp only [List.mem_cons, List.not_mem_nil, or_false, forall_eq_or_imp, forall_eq] at e5
  obtain ⟨e5, e6, e7⟩ := e5
  have hl := hs.len
  obtain ⟨hdl, hd2⟩ := dig_ne hne
  obtain ⟨v, hv⟩ : ∃ v, v = IntKind.i64.wrap (e + (tz x.natAbs - tz x1.natAbs : Nat)) := ⟨_, rfl⟩
  rw [← hv] at e5
  have hg0 : (dig x1.natAbs)[0] = x1.natAbs % 4294967296 := by
    have : ∀ (l : List Nat) (h : 0 < l.length) (y : Nat) (t : List Nat), l = y :: t → l[0] = y := by intro l h y t e; subst e; rfl
    exact this _ hdl _ _ (dig_pos (by omega))
  obtain ⟨g, hg⟩ : ∃ g, g = x1.natAbs % 4294967296 := ⟨_, rfl⟩
  rw [← hg] at hg0
  by_cases hz : g = 0
  · subst hz
    obtain ⟨l1, hl1⟩ : ∃ l1, l1 = (dig x1.natAbs).tail := ⟨_, rfl⟩
    have hll : l1.length ≤ 1100 := by rw [hl1]; simp; omega
    have llm : Lim l1 := by rw [hl1, ← List.drop_one]; exact (Lim.dig _).drop 1
    simp (disch := omega) [c13L0, e1, e2, e3, e4, e5, e6, e7, hdl, hd2, hg0, ← hl1]
    obtain ⟨k1, k2, k3, k4⟩ := tz_down (x := x1) (k := 32) hne (by rw [show (2 : Nat) ^ 32 = 4294967296 from rfl]; omega)
    rw [show (2 : Int) ^ 32 = 4294967296 from rfl] at k1 k2 k3 k4
    obtain ⟨y, hy⟩ : ∃ y, y = x1.tdiv 4294967296 := ⟨_, rfl⟩
    rw [← hy] at k1 k2 k3 k4
    have hya : y.natAbs = x1.natAbs / 4294967296 := by rw [hy, Int.natAbs_tdiv]; rfl
    have hv1 : val l1 = y.natAbs := by rw [hl1, dig_pos (by omega), List.tail_cons, val_dig, hya]
    refine CallK.of (by simp) (Made_call' (by omega) _ ⟨i.f, i.g, i.off + 1⟩ l1 (by omega) llm y hv1 (fun _ => k4) fun i' hi' => ?_)
    have hw : IntKind.i64.wrap (v + 32) = IntKind.i64.wrap (e + (tz x.natAbs - tz y.natAbs : Nat)) := by
      rw [hv, wrap_i64_full, wrap_i64_full, wrap_i64_full]; omega
    simp (disch := omega) [-wrap_i64_at, e1, e2, e3, e4, e5, e6, e7]
    refine ⟨tz y.natAbs, by omega, y, ⟨i', nx, ?_, by omega, by rcases hi' with e | e <;> subst e <;> simp <;> omega, by omega, k1, by omega, by rw [k3, hd], hs.le (by omega)⟩, rfl⟩
    rw [← hw]
    simp [-wrap_i64_at, At, e1, e2, e3, e4, e5, e6, e7]
  · simp (disch := omega) [c13L0, e1, e2, e3, e4, e5, e6, e7, hdl, hd2, hg0, hz]
    refine OI_1 (x1 := x1) ⟨i, nx, ?_, hnx, hix, hx0, hne, htz, hd, hs⟩ hQ
    simp [At, e1, e2, e3, e4, e5, e6, e7, hv]
theorem RefOfD_call {n : Nat} (hn : 0 < n) (x e : Int) (i : Sid) (hi : i.f < n) (hx : sz x 1100) (he : IntKind.i64.wrap e = e) {Q : PV → Nat → List Nat → Prop}
    (hQ : ∀ (i' : Sid) (n' : Nat), n ≤ n' → Q (D (decide (dyM x < 0)) i' (dig (dyM x).natAbs) (if x = 0 then 0 else IntKind.i64.wrap (e + tz x.natAbs))) n' []) : PCall Tryd.prog 13 [W (decide (x < 0)) i (dig x.natAbs), .int .i64 e] n Q := by
  refine of13 hn ?_
  by_cases h0 : x = 0
  · subst h0
    have := hQ ⟨0, 0, 0⟩ n (by omega)
    simp [dyM, dig_zero] at this
    simpa [c13, dig_zero] using this
  · obtain ⟨hdl, hd2⟩ := dig_ne h0
    simp only [if_neg h0, D] at hQ
    simp (disch := omega) [c13, hd2]
    refine OI_0 (x := x) (x1 := x) ⟨i, n, ?_, by omega, hi, hn, h0, by omega, rfl, hx⟩ hQ
    rw [Nat.sub_self]
    simp [At, he]
end Go.Proofs.YtaankihkejodgaaDoor
