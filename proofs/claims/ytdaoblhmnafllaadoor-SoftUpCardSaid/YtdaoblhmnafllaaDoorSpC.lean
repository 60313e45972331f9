/- SoftUp by value: the next number above any one is Go's own. No condition. -/
import Derived.Test.YtdaoblhmnafllaaDoorSnA
import Derived.Test.YtdaoblhmnafllaaDoorSpB
set_option linter.unusedVariables false
set_option linter.unusedSimpArgs false
set_option maxRecDepth 20000
namespace Go.Proofs.YtdaoblhmnafllaaDoor
open Go.Proofs

theorem nanB {b : Nat} (h : 9218868437227405312 < b % 9223372036854775808) : kindB b = 4 := by
  have h1 : bP b = 2047 := by unfold bP; omega
  have h2 : ¬ bF b = 0 := by unfold bF; omega
  unfold kindB
  rw [if_pos h1, if_neg h2]
theorem okB {b : Nat} (h : b % 9223372036854775808 ≤ 9218868437227405312) : ¬ kindB b = 4 := by
  unfold kindB
  by_cases h1 : bP b = 2047
  · have h2 : bF b = 0 := by unfold bF; unfold bP at h1; omega
    rw [if_pos h1, if_pos h2]; omega
  · rw [if_neg h1]
    (repeat' split) <;> omega
theorem IsNaN_call {n : Nat} (hn : 0 < n) (b : Nat) {Q : PV → Nat → List Nat → Prop} (hQ : Q (.bool (FloatKind.f64.format.order b b != some .eq)) n []) : PCall Tryd.prog 59 [.float .f64 b] n Q := by
  refine of59 hn ?_
  simpa (disch := omega) [c59] using hQ
theorem Inf_call {n : Nat} (hn : 0 < n) {Q : PV → Nat → List Nat → Prop} (hQ : Q (.float .f64 9218868437227405312) n []) : PCall Tryd.prog 32 [.int .i64 1] n Q := by
  refine of32 hn ?_
  simpa (disch := omega) [c32] using hQ
theorem Copysign_call {n : Nat} (hn : 0 < n) {Q : PV → Nat → List Nat → Prop} (hQ : Q (.float .f64 1) n []) : PCall Tryd.prog 61 [.float .f64 1, .float .f64 9218868437227405312] n Q := by
  have e1 : ∀ t, binPV Tryd.prog .andNot t (.int .u64 1) (.int .u64 9223372036854775808) = some (.int .u64 1) := fun t => by rw [binPV_andNot]; rfl
  have e2 : ∀ t, binPV Tryd.prog .and t (.int .u64 9218868437227405312) (.int .u64 9223372036854775808) = some (.int .u64 0) := fun t => by rw [binPV_and]; rfl
  have e3 : ∀ t, binPV Tryd.prog .or t (.int .u64 1) (.int .u64 0) = some (.int .u64 1) := fun t => by rw [binPV_or]; rfl
  refine of61 hn ?_
  simpa (disch := omega) [c61, e1, e2, e3, -binPV_andNot, -binPV_and, -binPV_or] using hQ

/-- What Go's own next number above is. -/
theorem Next_call {n : Nat} (hn : 0 < n) (s : Bool) (m b : Nat) (hb : b = sB s m) (hm : m ≤ 9218868437227405312) (hi : ¬ (s = false ∧ m = 9218868437227405312)) {Q : PV → Nat → List Nat → Prop} (hQ : Q (.float .f64 (upB b)) n []) : PCall Tryd.prog 31 [.float .f64 b, .float .f64 9218868437227405312] n Q := by
  have hbs : b < 18446744073709551616 := by rw [hb]; exact sB_lt hm
  have hm2 : b % 9223372036854775808 = m ∧ bN b = s := by
    rw [hb]; unfold sB mB bN
    cases s <;> simp <;> (try split) <;> omega
  have hk := okB (b := b) (by omega)
  have h0s : (0 : Nat) = sB false 0 := by simp [sB]
  have his : (9218868437227405312 : Nat) = sB false 9218868437227405312 := by simp [sB]
  have obb : FloatKind.f64.format.order b b = some .eq := by
    rw [hb, order_sB s s hm hm]; unfold ordI; rw [if_neg (by omega), if_pos rfl]
  have oii : FloatKind.f64.format.order 9218868437227405312 9218868437227405312 = some .eq := by
    rw [his, order_sB false false (by omega) (by omega)]; unfold ordI; rw [if_neg (by omega), if_pos rfl]
  have hlt : sgz s m < 9218868437227405312 := by
    unfold sgz; cases s
    · simp at hi; simp; omega
    · simp; omega
  have obi : FloatKind.f64.format.order b 9218868437227405312 = some .lt := by
    conv => lhs; rw [hb, his]
    rw [order_sB s false hm (by omega)]; unfold ordI
    rw [if_pos (by simpa [sgz] using hlt)]
  have oib : FloatKind.f64.format.order 9218868437227405312 b = some .gt := by
    conv => lhs; rw [hb, his]
    rw [order_sB false s (by omega) hm]; unfold ordI
    have : (9218868437227405312 : Int) = sgz false 9218868437227405312 := by simp [sgz]
    rw [if_neg (by omega), if_neg (by omega)]
  have ob0 : FloatKind.f64.format.order b 0 = some (ordI (sgz s m) 0) := by
    conv => lhs; rw [hb, h0s]
    rw [order_sB s false hm (by omega)]; simp [sgz]
  have e1 : ∀ t, binPV Tryd.prog .eql t (.float .f64 b) (.float .f64 9218868437227405312) = some (.bool false) := fun t => by rw [binPV_eqlf, obi]; rfl
  have e2 : ∀ t, binPV Tryd.prog .gtr t (.float .f64 9218868437227405312) (.float .f64 b) = some (.bool true) := fun t => by rw [binPV_gtrf, oib]; rfl
  refine of31 hn ?_
  simp (disch := omega) [c31]
  refine CallK.of (by simp) (IsNaN_call hn b ?_)
  rw [obb]
  simp (disch := omega)
  refine CallK.of (by simp) (IsNaN_call hn _ ?_)
  rw [oii]
  by_cases h0 : m = 0
  · have e3 : ∀ t, binPV Tryd.prog .eql t (.float .f64 b) (.float .f64 0) = some (.bool true) := fun t => by
      rw [binPV_eqlf, ob0, h0]; cases s <;> rfl
    have hu : upB b = 1 := by
      unfold upB
      rw [if_neg hk]
      subst h0
      cases s
      · have : b = 0 := by rw [hb]; simp [sB]
        subst this; decide
      · have : b = 9223372036854775808 := by rw [hb]; simp [sB, mB, bN]
        subst this; decide
    rw [hu] at hQ
    simp (disch := omega) [e1, e3, -binPV_eqlf, -binPV_gtrf]
    refine CallK.of (by simp) (Copysign_call hn ?_)
    simpa (disch := omega) using hQ
  · have hb1 : ¬ b = 9223372036854775808 := by omega
    have hb2 : ¬ b = 9218868437227405312 := by
      intro h
      apply hi
      rw [← hm2.2, h]
      refine ⟨by decide, ?_⟩
      omega
    have hu : upB b = if s = true then b - 1 else b + 1 := by
      unfold upB
      rw [if_neg hk, if_neg hb2, if_neg hb1, hm2.2]
    rw [hu] at hQ
    have e3 : ∀ t, binPV Tryd.prog .eql t (.float .f64 b) (.float .f64 0) = some (.bool false) := fun t => by
      rw [binPV_eqlf, ob0]; unfold ordI sgz
      cases s
      · simp only [Bool.false_eq_true, if_false]; rw [if_neg (by omega), if_neg (by omega)]; rfl
      · simp only [if_true]; rw [if_pos (by omega)]; rfl
    have e4 : ∀ t, binPV Tryd.prog .gtr t (.float .f64 b) (.float .f64 0) = some (.bool (!s)) := fun t => by
      rw [binPV_gtrf, ob0]; unfold ordI sgz
      cases s
      · simp only [Bool.false_eq_true, if_false]; rw [if_neg (by omega), if_neg (by omega)]; rfl
      · simp only [if_true]; rw [if_pos (by omega)]; rfl
    cases s
    · simp only [Bool.false_eq_true, if_false] at hQ
      have hlt2 : b < 9223372036854775808 := by have := hm2.2; unfold bN at this; simpa using this
      have hw : IntKind.u64.wrap ((b : Int) + 1) = ((b + 1 : Nat) : Int) := by rw [wrap_u64_at _ (by omega)]; omega
      obtain ⟨c, hc⟩ : ∃ c, c = b + 1 := ⟨_, rfl⟩
      rw [← hc] at hw hQ
      simpa (disch := omega) [e1, e2, e3, e4, hw, -wrap_u64_at, -binPV_eqlf, -binPV_gtrf] using hQ
    · simp only [if_true] at hQ
      have hge : 9223372036854775808 ≤ b := by have := hm2.2; unfold bN at this; simpa using this
      have hw : IntKind.u64.wrap ((b : Int) - 1) = ((b - 1 : Nat) : Int) := by rw [wrap_u64_at _ (by omega)]; omega
      obtain ⟨c, hc⟩ : ∃ c, c = b - 1 := ⟨_, rfl⟩
      rw [← hc] at hw hQ
      simpa (disch := omega) [e1, e2, e3, e4, hw, -wrap_u64_at, -binPV_eqlf, -binPV_gtrf] using hQ

theorem UpLaw_call {n : Nat} (hn : 0 < n) (b : Nat) (hb : b < 18446744073709551616) : PCall Tryd.prog 9 [.int .u64 b] n (fun v _ D => v = .bool true ∧ D = []) := by
  refine of9 hn ?_
  by_cases hnan : 9218868437227405312 < b % 9223372036854775808
  · have hk := nanB hnan
    have hu : upB b = b := by unfold upB; rw [if_pos hk]
    have ob : FloatKind.f64.format.order b b = none := by
      have := sB_self b hb
      rw [this]
      exact order_nan _ _ (by omega) (by omega) (.inl hnan)
    have e1 : ∀ t, binPV Tryd.prog .neq t (.float .f64 b) (.float .f64 b) = some (.bool true) := fun t => by rw [binPV_neqf, ob]; rfl
    simp (disch := omega) [c9]
    refine CallK.of (by simp) (Up_call hn b hb ?_)
    rw [hu]
    simp (disch := omega) [e1, -binPV_neqf]
    refine CallK.of (by simp) (awake_call hn fun n' g => ?_)
    (simp (disch := omega) [g] <;> omega)
  have hself := sB_self b hb
  obtain ⟨m, hm⟩ : ∃ m, m = b % 9223372036854775808 := ⟨_, rfl⟩
  obtain ⟨s, hs⟩ : ∃ s, s = bN b := ⟨_, rfl⟩
  rw [← hm, ← hs] at hself
  rw [← hm] at hnan
  have hm' : m ≤ 9218868437227405312 := by omega
  have obb : FloatKind.f64.format.order b b = some .eq := by
    rw [hself, order_sB s s hm' hm']; unfold ordI; rw [if_neg (by omega), if_pos rfl]
  have e1 : ∀ t, binPV Tryd.prog .neq t (.float .f64 b) (.float .f64 b) = some (.bool false) := fun t => by rw [binPV_neqf, obb]; rfl
  by_cases hinf : b = 9218868437227405312
  · have hk := okB (b := b) (by omega)
    have hu : upB b = b := by unfold upB; rw [if_neg hk, if_pos hinf]
    simp (disch := omega) [c9]
    refine CallK.of (by simp) (Up_call hn b hb ?_)
    rw [hu]
    simp (disch := omega) [e1, hinf, -binPV_neqf]
    rw [hinf] at e1
    simp (disch := omega) [e1, -binPV_neqf]
    refine CallK.of (by simp) (awake_call hn fun n' g => ?_)
    (simp (disch := omega) [g] <;> omega)
  · have hi : ¬ (s = false ∧ m = 9218868437227405312) := by
      rintro ⟨h1, h2⟩
      apply hinf
      rw [hself, h1, h2]; simp [sB]
    have hub : upB b ≠ 0 := by
      unfold upB
      (repeat' split) <;> try omega
      · rename_i h; have := hnan; intro hc; subst hc; exact absurd h (by decide)
      · rename_i h; unfold bN at h; simp at h; omega
    obtain ⟨u, hu⟩ : ∃ u, u = upB b := ⟨_, rfl⟩
    have hx0 : ((u : Int) == 0) = false := by simp; omega
    simp (disch := omega) [c9]
    refine CallK.of (by simp) (Up_call hn b hb ?_)
    simp (disch := omega) [e1, hinf, -binPV_neqf]
    refine CallK.of (by simp) (Inf_call hn ?_)
    simp (disch := omega)
    refine CallK.of (by simp) (Next_call hn s m b hself hm' hi ?_)
    rw [← hu]
    have hu0 : ¬ u = 0 := by omega
    simp (disch := omega) [hx0, hu0]
    refine CallK.of (by simp) (awake_call hn fun n' g => ?_)
    (simp (disch := omega) [g] <;> omega)
end Go.Proofs.YtdaoblhmnafllaaDoor
