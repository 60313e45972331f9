/- Several texts as one: SnA, SnZ, SnB, SnC, SnD, SnE, SnF, SnG, SnH, SnI. -/
import Derived.Test.YtdaoblhmnafllaaDoorSrD
/-! SnA: The next number above; how far a number is from one: by value. -/
set_option linter.unusedVariables false
set_option linter.unusedSimpArgs false
set_option maxHeartbeats 2000000
set_option maxRecDepth 20000
namespace Go.Proofs.YtdaoblhmnafllaaDoor
open Go.Proofs

def upB (b : Nat) : Nat := if kindB b = 4 then b else if b = 9218868437227405312 then b else if b = 9223372036854775808 then 1 else if bN b = true then b - 1 else b + 1
theorem Up_call {n : Nat} (hn : 0 < n) (b : Nat) (hb : b < 18446744073709551616) {Q : PV → Nat → List Nat → Prop} (hQ : Q (.int .u64 (upB b : Nat)) n []) : PCall Tryd.prog 29 [.int .u64 b] n Q := by
  refine of29 hn ?_
  unfold upB at hQ
  simp (disch := omega) [c29]
  refine CallK.of (by simp) (Kind_call hn b hb ?_)
  by_cases h1 : kindB b = 4
  · rw [if_pos h1] at hQ
    simpa (disch := omega) [h1] using hQ
  · have h1' : (kindB b == 4) = false := by simpa using h1
    rw [if_neg h1] at hQ
    by_cases h2 : b = 9218868437227405312
    · subst h2
      rw [if_pos rfl] at hQ
      simpa (disch := omega) [h1'] using hQ
    · rw [if_neg h2] at hQ
      by_cases h3 : b = 9223372036854775808
      · subst h3
        rw [if_pos rfl] at hQ
        simpa (disch := omega) [h1'] using hQ
      · rw [if_neg h3] at hQ
        simp (disch := omega) [h1', h2, h3]
        refine CallK.of (by simp) (Sign_call hn b hb ?_)
        cases h4 : bN b
        · rw [h4] at hQ
          simp only [Bool.false_eq_true, if_false] at hQ
          have hlt : b < 9223372036854775808 := by unfold bN at h4; simpa using h4
          have hw : IntKind.u64.wrap ((b : Int) + 1) = ((b + 1 : Nat) : Int) := by rw [wrap_u64_at _ (by omega)]; omega
          obtain ⟨c, hc⟩ : ∃ c, c = b + 1 := ⟨_, rfl⟩
          rw [← hc] at hw hQ
          simpa (disch := omega) [-wrap_u64_at, h4, hw] using hQ
        · rw [h4] at hQ
          simp only [if_true] at hQ
          have hge : 9223372036854775808 ≤ b := by unfold bN at h4; simpa using h4
          have hw : IntKind.u64.wrap ((b : Int) - 1) = ((b - 1 : Nat) : Int) := by rw [wrap_u64_at _ (by omega)]; omega
          obtain ⟨c, hc⟩ : ∃ c, c = b - 1 := ⟨_, rfl⟩
          rw [← hc] at hw hQ
          simpa (disch := omega) [-wrap_u64_at, h4, hw] using hQ
end Go.Proofs.YtdaoblhmnafllaaDoor

/-! SnZ: A number's value as the document tells it: that what it answers with is no later one's (the proof of RefValue_call with one more fact; printed by wip/mkv.py). -/
set_option linter.unusedVariables false
set_option linter.unusedSimpArgs false
set_option maxHeartbeats 2000000
set_option maxRecDepth 20000
namespace Go.Proofs.YtdaoblhmnafllaaDoor
open Go.Proofs

theorem RefValue2_call {n : Nat} (hn : 0 < n) (b : Nat) (hb : b < 18446744073709551616) {Q : PV → Nat → List Nat → Prop}
    (hQ : ∀ (i : Sid) (n' : Nat), n ≤ n' → i.f < n' → Q (D (decide (dyM (valZ b) < 0)) i (dig (dyM (valZ b)).natAbs) (dyE (valZ b) (expo b))) n' []) : PCall Tryd.prog 21 [.int .u64 b] n Q := by
  have hm := mant_lt b
  have he := expo_le b
  have hp := bP_le b
  have hfr := bF_lt b
  have ha := valZ_abs b
  have hzs := sz_val b
  have hdef : valZ b = if bN b then -(mant b : Int) else mant b := rfl
  obtain ⟨z, hz⟩ : ∃ z, z = valZ b := ⟨_, rfl⟩
  obtain ⟨m, hmm⟩ : ∃ m, m = mant b := ⟨_, rfl⟩
  obtain ⟨e, hee⟩ : ∃ e, e = expo b := ⟨_, rfl⟩
  have hmd : m = if bP b = 0 then bF b else bF b + 4503599627370496 := hmm
  have hed : e = if bP b = 0 then -1074 else (bP b : Int) - 1075 := hee
  rw [← hz, ← hee] at hQ
  rw [← hz] at ha hdef hzs
  rw [← hmm] at ha hm hdef
  rw [← hee] at he
  have hwe : IntKind.i64.wrap e = e := wrap_i64_id e (by omega) (by omega)
  have hE : (if z = 0 then 0 else IntKind.i64.wrap (e + tz z.natAbs)) = dyE z e := by
    unfold dyE
    by_cases h : z = 0
    · rw [if_pos h, if_pos h]
    · have := tz_sz h hzs
      rw [if_neg h, if_neg h]; exact wrap_i64_id _ (by omega) (by omega)
  have hszm : ((m : Int)).natAbs = m := by simp
  have fin : ∀ (i1 : Sid) (n1 : Nat), n ≤ n1 → newSid n n1 i1 → ∀ {Q' : PV → Nat → List Nat → Prop}, (∀ (i : Sid) (n' : Nat), n1 ≤ n' → i.f < n' → Q' (D (decide (dyM z < 0)) i (dig (dyM z).natAbs) (dyE z e)) n' []) → PCall Tryd.prog 42 [W (decide (z < 0)) i1 (dig z.natAbs), .int .i64 e] n1 Q' := by
    intro i1 n1 g1 d1 Q' hq
    refine RefOfD2_call (by omega) z e i1 (newSid_lt d1 (by omega)) (hzs.mono (by omega)) hwe fun i' n' g b => ?_
    rw [hE]; exact hq i' n' g b
  have hlm : (dig m).length ≤ 2 := by have := hzs.len; rw [ha] at this; exact this
  have hnumm : numW false (dig m) = (m : Int) := by have := numW_dig (m : Int); simpa using this
  refine of21 hn ?_
  by_cases hp0 : bP b = 0
  · rw [if_pos hp0] at hmd hed
    subst hed
    simp (disch := omega) [c21]
    refine CallK.of (by simp) (RefFrac_call hn b hb ?_)
    rw [← hmd]
    simp (disch := omega) []
    refine CallK.of (by simp) (RefOf_call hn (m : Int) (by omega) (by omega) fun i1 n1 g1 d1 => ?_)
    have hm0 : decide ((m : Int) < 0) = false := by simp
    rw [hm0, hszm]
    simp (disch := omega) [g1]
    refine CallK.of (by simp) (RefPower_call (by omega) b hb ?_)
    simp (disch := omega) [g1, hp0]
    refine CallK.of (by simp) (RefNegB_call (by omega) b hb ?_)
    cases hsg : bN b
    · rw [hsg] at hdef
      have hzm : z = (m : Int) := by rw [hdef]; rfl
      simp (disch := omega) [g1]
      have h1 : decide (z < 0) = false := by rw [hzm]; simp
      have := fun {Q' : PV → Nat → List Nat → Prop} => fin i1 n1 (by omega) d1 (Q' := Q')
      rw [h1, ha] at this
      refine CallK.of (by simp) (this fun i9 n9 g9 b9 => ?_)
      have := hQ i9 n9 (by omega) b9
      simpa (disch := omega) [show n ≤ n9 by omega] using this
    · rw [hsg] at hdef
      have hzm : z = -(m : Int) := by rw [hdef]; rfl
      simp (disch := omega) [g1]
      refine CallK.of (by simp) (Neg_call (by omega) false i1 (dig m) (by omega) (Lim.dig _) z (by rw [hnumm]; exact hzm) fun i8 d8 => ?_)
      simp (disch := omega) [g1]
      refine CallK.of (by simp) (fin i8 n1 (by omega) (by rcases d8 with rfl | rfl; exact .inl rfl; exact d1) fun i9 n9 g9 b9 => ?_)
      have := hQ i9 n9 (by omega) b9
      simpa (disch := omega) [show n ≤ n9 by omega] using this
  · rw [if_neg hp0] at hmd hed
    simp (disch := omega) [c21]
    refine CallK.of (by simp) (RefFrac_call hn b hb ?_)
    simp (disch := omega) []
    refine CallK.of (by simp) (RefOf_call hn (bF b : Int) (by omega) (by omega) fun i1 n1 g1 d1 => ?_)
    simp (disch := omega) [g1]
    refine CallK.of (by simp) (RefPower_call (by omega) b hb ?_)
    have hpp : 0 < bP b := by omega
    simp (disch := omega) [g1, hpp]
    refine CallK.of (by simp) (RefFrac_call (by omega) b hb ?_)
    have hw1 : IntKind.u64.wrap ((bF b : Int) + 4503599627370496) = (m : Int) := by rw [hmd, wrap_u64_eq]; omega
    have hw2 : IntKind.i64.wrap (m : Int) = (m : Int) := wrap_i64_nat m (by omega)
    simp (disch := omega) [-wrap_u64_at, -wrap_i64_at, g1, hw1, hw2]
    refine CallK.of (by simp) (RefOf_call (by omega) (m : Int) (by omega) (by omega) fun i2 n2 g2 d2 => ?_)
    have hm0 : decide ((m : Int) < 0) = false := by simp
    rw [hm0, hszm]
    simp (disch := omega) [g1, g2]
    refine CallK.of (by simp) (RefPower_call (by omega) b hb ?_)
    have hw3 : IntKind.i64.wrap ((bP b : Int) - 1075) = e := by rw [hed]; exact wrap_i64_id _ (by omega) (by omega)
    simp (disch := omega) [-wrap_i64_at, g1, g2, hw3]
    refine CallK.of (by simp) (RefNegB_call (by omega) b hb ?_)
    cases hsg : bN b
    · rw [hsg] at hdef
      have hzm : z = (m : Int) := by rw [hdef]; rfl
      simp (disch := omega) [g1, g2]
      have h1 : decide (z < 0) = false := by rw [hzm]; simp
      have := fun {Q' : PV → Nat → List Nat → Prop} => fin i2 n2 (by omega) (newSid_le g1 d2) (Q' := Q')
      rw [h1, ha] at this
      refine CallK.of (by simp) (this fun i9 n9 g9 b9 => ?_)
      have := hQ i9 n9 (by omega) b9
      simpa (disch := omega) [show n ≤ n9 by omega] using this
    · rw [hsg] at hdef
      have hzm : z = -(m : Int) := by rw [hdef]; rfl
      simp (disch := omega) [g1, g2]
      refine CallK.of (by simp) (Neg_call (by omega) false i2 (dig m) (by omega) (Lim.dig _) z (by rw [hnumm]; exact hzm) fun i8 d8 => ?_)
      simp (disch := omega) [g1, g2]
      refine CallK.of (by simp) (fin i8 n2 (by omega) (by rcases d8 with rfl | rfl; exact .inl rfl; exact (newSid_le g1 d2)) fun i9 n9 g9 b9 => ?_)
      have := hQ i9 n9 (by omega) b9
      simpa (disch := omega) [show n ≤ n9 by omega] using this
end Go.Proofs.YtdaoblhmnafllaaDoor

/-! SnB: How far a number is from one, by value. -/
set_option linter.unusedVariables false
set_option linter.unusedSimpArgs false
set_option maxHeartbeats 2000000
set_option maxRecDepth 20000
namespace Go.Proofs.YtdaoblhmnafllaaDoor
open Go.Proofs

/-- A number's value in units of 2 to the -4000. -/
def unit (b : Nat) : Int := valZ b * 2 ^ (expo b + 4000).toNat
theorem unit_NV (b : Nat) (i : Sid) : D (decide (dyM (valZ b) < 0)) i (dig (dyM (valZ b)).natAbs) (dyE (valZ b) (expo b)) = NV (-4000) (unit b) i := by
  have he := expo_le b
  have h1 : dyM (unit b) = dyM (valZ b) := dyM_mul _ _
  have h2 : dyE (unit b) (-4000) = dyE (valZ b) (-4000 + ((expo b + 4000).toNat : Nat)) := dyE_mul _ _ _
  rw [show (-4000 : Int) + ((expo b + 4000).toNat : Nat) = expo b by omega] at h2
  simp only [NV, h1, h2]
theorem sz_unit (b : Nat) : sz (unit b) 170 := by
  have he := expo_le b
  have hm := mant_lt b
  unfold sz unit
  rw [Int.natAbs_mul, natAbs_two_pow, valZ_abs]
  have h1 := pow_lim (expo b + 4000).toNat 168 (by omega)
  have h2 : mant b * 2 ^ (expo b + 4000).toNat < 4294967296 ^ 2 * 4294967296 ^ 168 := Nat.mul_lt_mul'' (by omega) h1
  rw [← Nat.pow_add] at h2
  exact h2
theorem sz_diff {v w : Int} {k : Nat} (hv : sz v k) (hw : sz w k) : sz (v - w) (k + 1) := hv.sub hw
/-- The number d in these units: nought when it is far below. -/
theorem distance_call {n : Nat} (hn : 0 < n) (x E v : Int) (i : Sid) (hi : i.f < n) (hx : sz x 512) (hE : -16384 ≤ E ∧ E ≤ 16384)
    (h1 : topD (dig x.natAbs) E < -2000 → v = 0) (h2 : ¬ topD (dig x.natAbs) E < -2000 → D (decide (x < 0)) i (dig x.natAbs) E = NV (-4000) v i ∧ sz v 170) (b : Nat) (hb : b < 18446744073709551616) {Q : PV → Nat → List Nat → Prop}
    (hQ : ∀ (i' : Sid) (n' : Nat), n ≤ n' → i'.f < n' → Q (NV (-4000) ((v - unit b).natAbs : Int) i') n' []) : PCall Tryd.prog 28 [D (decide (x < 0)) i (dig x.natAbs) E, .int .u64 b] n Q := by
  refine of28 hn ?_
  have hl := hx.len
  have hvs : sz v 170 := by
    by_cases h : topD (dig x.natAbs) E < -2000
    · rw [h1 h]; exact sz_zero _
    · exact (h2 h).2
  have hus := sz_unit b
  obtain ⟨d, hd⟩ : ∃ d, d = v - unit b := ⟨_, rfl⟩
  have hds : sz d 171 := by rw [hd]; exact hvs.sub hus
  have hdm : sz (dyM d) 512 := (sz_dyM hds).mono (by omega)
  have hdl := hdm.len
  rw [← hd] at hQ
  have subC : ∀ (i2 i3 : Sid) (n2 : Nat), i2.f < n2 → i3.f < n2 → ∀ {Q' : PV → Nat → List Nat → Prop}, (∀ (i' : Sid) (n' : Nat), n2 ≤ n' → i'.f < n' → Q' (NV (-4000) d i') n' []) → PCall Tryd.prog 56 [NV (-4000) v i2, NV (-4000) (unit b) i3] n2 Q' := by
    intro i2 i3 n2 k1 k2 Q' hq
    rw [hd] at hq
    exact SubNV_call (by omega) i2 i3 k1 k2 hvs hus (by omega) (by omega) hq
  have subV : ∀ (i3 : Sid) (n2 : Nat), n ≤ n2 → i3.f < n2 → ¬ topD (dig x.natAbs) E < -2000 → ∀ {Q' : PV → Nat → List Nat → Prop}, (∀ (i' : Sid) (n' : Nat), n2 ≤ n' → i'.f < n' → Q' (NV (-4000) d i') n' []) → PCall Tryd.prog 56 [D (decide (x < 0)) i (dig x.natAbs) E, D (decide (dyM (valZ b) < 0)) i3 (dig (dyM (valZ b)).natAbs) (dyE (valZ b) (expo b))] n2 Q' := by
    intro i3 n2 k0 k1 h Q' hq
    rw [(h2 h).1, unit_NV]
    exact subC i i3 n2 (by omega) k1 hq
  have sub0 : ∀ (i3 : Sid) (n2 : Nat), n ≤ n2 → i3.f < n2 → topD (dig x.natAbs) E < -2000 → ∀ {Q' : PV → Nat → List Nat → Prop}, (∀ (i' : Sid) (n' : Nat), n2 ≤ n' → i'.f < n' → Q' (NV (-4000) d i') n' []) → PCall Tryd.prog 56 [D false ⟨0, 0, 0⟩ [] 0, D (decide (dyM (valZ b) < 0)) i3 (dig (dyM (valZ b)).natAbs) (dyE (valZ b) (expo b))] n2 Q' := by
    intro i3 n2 k0 k1 h Q' hq
    have hz : D false ⟨0, 0, 0⟩ [] 0 = NV (-4000) v ⟨0, 0, 0⟩ := by rw [h1 h]; simp [NV, dyM, dyE, dig_zero]
    rw [hz, unit_NV]
    exact subC ⟨0, 0, 0⟩ i3 n2 (by simp; omega) k1 hq
  have hsg : dyM d < 0 ↔ d < 0 := by
    have := cmpZ_dyM d; have := cmpZ_cases d; have := cmpZ_cases (dyM d); omega
  have negC : ∀ (i2 : Sid) (n2 : Nat), 0 < n2 → i2.f < n2 → dyM d < 0 → ∀ {Q' : PV → Nat → List Nat → Prop}, (∀ i' : Sid, i'.f < n2 → Q' (NV (-4000) (-d) i') n2 []) → PCall Tryd.prog 58 [.agg [.bool true, .sl i2 1 (u32s (dig (dyM d).natAbs)), .int .i64 (dyE d (-4000))]] n2 Q' := by
    intro i2 n2 k0 k1 hneg Q' hq
    have := RefNegD_call k0 (dyM d) (dyE d (-4000)) i2 k1 hdm (Q := Q') (fun i3 h3 => by
      have := hq i3 h3
      simp only [NV, dyM_neg, dyE_neg] at this
      exact this)
    rw [show decide (dyM d < 0) = true by simpa using hneg] at this
    exact this
  simp (disch := omega) [c28]
  refine CallK.of (by simp) (RefValue2_call hn b hb fun i1 n1 g1 b1 => ?_)
  simp (disch := omega) [g1]
  refine CallK.of (by simp) (RefTopD_call (by omega) _ i _ E (by omega) (Lim.dig _) (by omega) ?_)
  by_cases ht : topD (dig x.natAbs) E < -2000
  · simp (disch := omega) [g1, ht]
    refine CallK.of (by simp) (sub0 i1 n1 g1 b1 ht fun i2 n2 g2 b2 => ?_)
    by_cases hneg : dyM d < 0
    · have hQ := fun i' n' a c => hQ i' n' a c
      rw [show ((d.natAbs : Nat) : Int) = -d by omega] at hQ
      simp (disch := omega) [g1, g2, hneg]
      refine CallK.of (by simp) (negC i2 n2 (by omega) b2 hneg fun i3 h3 => ?_)
      have := hQ i3 n2 (by omega) h3
      simpa (disch := omega) [g1, g2] using ⟨by omega, this⟩
    · rw [show ((d.natAbs : Nat) : Int) = d by omega] at hQ
      have := hQ i2 n2 (by omega) b2
      simp only [NV] at this
      simp (disch := omega) [g1, g2, hneg]
      simp only [hneg, decide_false] at this
      exact ⟨by omega, this⟩
  · simp (disch := omega) [g1, ht]
    refine CallK.of (by simp) (subV i1 n1 g1 b1 ht fun i2 n2 g2 b2 => ?_)
    by_cases hneg : dyM d < 0
    · have hQ := fun i' n' a c => hQ i' n' a c
      rw [show ((d.natAbs : Nat) : Int) = -d by omega] at hQ
      simp (disch := omega) [g1, g2, hneg]
      refine CallK.of (by simp) (negC i2 n2 (by omega) b2 hneg fun i3 h3 => ?_)
      have := hQ i3 n2 (by omega) h3
      simpa (disch := omega) [g1, g2] using ⟨by omega, this⟩
    · rw [show ((d.natAbs : Nat) : Int) = d by omega] at hQ
      have := hQ i2 n2 (by omega) b2
      simp only [NV] at this
      simp (disch := omega) [g1, g2, hneg]
      simp only [hneg, decide_false] at this
      exact ⟨by omega, this⟩
end Go.Proofs.YtdaoblhmnafllaaDoor

/-! SnC: Neighbours: plain laws. -/
set_option linter.unusedVariables false
set_option linter.unusedSimpArgs false
set_option maxHeartbeats 2000000
set_option maxRecDepth 20000
namespace Go.Proofs.YtdaoblhmnafllaaDoor
open Go.Proofs

/-- A number's size in units of 2 to the -4000. -/
def vm (m : Nat) : Nat := mant m * 2 ^ (expo m + 4000).toNat
def U (r : Nat) : Nat := 2 ^ (r + 2926)
theorem U_succ (r : Nat) : U (r + 1) = 2 * U r := by
  unfold U; rw [show r + 1 + 2926 = r + 2926 + 1 by omega, Nat.pow_succ, Nat.mul_comm]
theorem vm_low {q : Nat} (h : q < 4503599627370496) : vm q = q * U 0 := by
  have hP : bP q = 0 := by unfold bP; omega
  have hF : bF q = q := by unfold bF; omega
  have hm : mant q = q := by unfold mant; rw [if_pos hP, hF]
  have he : expo q = -1074 := by unfold expo; rw [if_pos hP]
  unfold vm U; rw [hm, he, show ((-1074 : Int) + 4000).toNat = 0 + 2926 by decide]
theorem vm_high {q r : Nat} (h1 : 4503599627370496 ≤ q) (h2 : q < 9007199254740992) (hr : r < 2046) : vm (r * 4503599627370496 + q) = q * U r := by
  have hP : bP (r * 4503599627370496 + q) = r + 1 := by unfold bP; omega
  have hF : bF (r * 4503599627370496 + q) = q - 4503599627370496 := by unfold bF; omega
  have hm : mant (r * 4503599627370496 + q) = q := by unfold mant; rw [if_neg (by omega), hF]; omega
  have he : expo (r * 4503599627370496 + q) = (r : Int) - 1074 := by unfold expo; rw [if_neg (by omega), hP]; omega
  unfold vm U; rw [hm, he, show ((r : Int) - 1074 + 4000).toNat = r + 2926 by omega]
/-- A packed number's size. -/
theorem vm_pack {q r : Nat} (hq : q ≤ 9007199254740992) (h : 4503599627370496 ≤ q ∨ r = 0) (hm : r * 4503599627370496 + q < 9218868437227405312) : vm (r * 4503599627370496 + q) = q * U r := by
  by_cases h1 : q < 4503599627370496
  · have h0 : r = 0 := by omega
    subst h0
    rw [Nat.zero_mul, Nat.zero_add]; exact vm_low h1
  · by_cases h2 : q < 9007199254740992
    · exact vm_high (by omega) h2 (by omega)
    · have h3 : q = 9007199254740992 := by omega
      subst h3
      have := vm_high (q := 4503599627370496) (r := r + 1) (Nat.le_refl _) (by decide) (by omega)
      rw [show r * 4503599627370496 + 9007199254740992 = (r + 1) * 4503599627370496 + 4503599627370496 by omega, this, U_succ]
      generalize U r = u
      omega
theorem vm_up {q r : Nat} (hq : q ≤ 9007199254740992) (h : 4503599627370496 ≤ q ∨ r = 0) (hm : r * 4503599627370496 + q + 1 < 9218868437227405312) : q * U r + U r ≤ vm (r * 4503599627370496 + q + 1) := by
  by_cases h2 : q < 9007199254740992
  · obtain ⟨q1, hq1⟩ : ∃ q1, q1 = q + 1 := ⟨_, rfl⟩
    have hm' : r * 4503599627370496 + q1 < 9218868437227405312 := by rw [hq1, ← Nat.add_assoc]; exact hm
    clear hm
    have := vm_pack (q := q1) (r := r) (by omega) (by omega) hm'
    rw [hq1] at this
    rw [Nat.add_assoc, this, Nat.add_mul, Nat.one_mul]
    exact Nat.le_refl _
  · have h3 : q = 9007199254740992 := by omega
    subst h3
    have hm' : (r + 1) * 4503599627370496 + 4503599627370497 < 9218868437227405312 := by
      have e : (r + 1) * 4503599627370496 + 4503599627370497 = r * 4503599627370496 + 9007199254740992 + 1 := by omega
      rw [e]; exact hm
    clear hm
    have := vm_pack (q := 4503599627370497) (r := r + 1) (by decide) (.inl (by decide)) hm'
    rw [show r * 4503599627370496 + 9007199254740992 + 1 = (r + 1) * 4503599627370496 + 4503599627370497 by omega, this, U_succ]
    generalize U r = u
    omega
/-- The one below: a whole unit below, or, at a power's border, at least no more. -/
theorem vm_down {q r : Nat} (hq : q ≤ 9007199254740992) (h : 4503599627370496 ≤ q ∨ r = 0) (h0 : 0 < r * 4503599627370496 + q) (hm : r * 4503599627370496 + q < 9218868437227405312) :
    vm (r * 4503599627370496 + q - 1) + U r = q * U r ∨ (q = 4503599627370496 ∧ 0 < r ∧ vm (r * 4503599627370496 + q - 1) ≤ q * U r) := by
  by_cases h2 : 4503599627370496 < q ∨ r = 0
  · left
    have h3 : 0 < q := by omega
    obtain ⟨q', rfl⟩ : ∃ q', q = q' + 1 := ⟨q - 1, by omega⟩
    have := vm_pack (q := q') (r := r) (by omega) (by omega) (by omega)
    rw [show r * 4503599627370496 + (q' + 1) - 1 = r * 4503599627370496 + q' by omega, this, Nat.add_mul, Nat.one_mul]
  · right
    have hq' : q = 4503599627370496 := by omega
    obtain ⟨r', rfl⟩ : ∃ r', r = r' + 1 := ⟨r - 1, by omega⟩
    subst hq'
    have := vm_pack (q := 9007199254740991) (r := r') (by omega) (by omega) (by omega)
    refine ⟨rfl, by omega, ?_⟩
    rw [show (r' + 1) * 4503599627370496 + 4503599627370496 - 1 = r' * 4503599627370496 + 9007199254740991 by omega, this, U_succ]
    generalize U r' = u
    omega
/-- What is rounded lies at most half a unit off. -/
theorem rnd_near (M : Nat) (t : Nat) : 2 * M ≤ 2 * (rq M t * 2 ^ t) + 2 ^ t ∧ 2 * (rq M t * 2 ^ t) ≤ 2 * M + 2 ^ t := by
  have h := Nat.div_add_mod M (2 ^ t)
  have hlt : M % 2 ^ t < 2 ^ t := Nat.mod_lt _ (Nat.pos_of_ne_zero (by simp))
  unfold rq
  generalize M / 2 ^ t = q at *
  generalize M % 2 ^ t = r at *
  have hc : 2 ^ t * q = q * 2 ^ t := Nat.mul_comm _ _
  generalize 2 ^ t = T at *
  split
  · rw [Nat.add_mul, Nat.one_mul]
    generalize q * T = z at *
    omega
  · rw [Nat.add_zero]
    generalize q * T = z at *
    omega
end Go.Proofs.YtdaoblhmnafllaaDoor

/-! SnD: Neither neighbour is nearer: plain law. -/
set_option linter.unusedVariables false
set_option linter.unusedSimpArgs false
set_option maxHeartbeats 2000000
set_option maxRecDepth 20000
namespace Go.Proofs.YtdaoblhmnafllaaDoor
open Go.Proofs

/-- The number's own size in units, and the rounded one's: near each other, and the rounded one's whole part q. -/
theorem near_units {M L : Nat} {E : Int} (hL : bitsL M L) (hE : -4000 ≤ E) (hfin : spB M E L < 9218868437227405312) :
    ∃ q r : Nat, spB M E L = r * 4503599627370496 + q ∧ q ≤ 9007199254740992 ∧ (4503599627370496 ≤ q ∨ r = 0) ∧
      2 * (M * 2 ^ (E + 4000).toNat) ≤ 2 * (q * U r) + U r ∧ 2 * (q * U r) ≤ 2 * (M * 2 ^ (E + 4000).toNat) + U r ∧ (0 < r → 4503599627370496 * U r ≤ M * 2 ^ (E + 4000).toNat) := by
  obtain ⟨h1, h2⟩ := rnd_range (E := E) hL
  obtain ⟨p, hp⟩ : ∃ p, p = pexp L E := ⟨_, rfl⟩
  have hp1 : p = L + E - 53 ∧ -1074 ≤ p ∨ p = -1074 ∧ (L : Int) + E - 53 ≤ -1074 := by
    rw [hp]; unfold pexp; split
    · right; exact ⟨rfl, by omega⟩
    · left; omega
  rw [← hp] at h1 h2
  have hsp : spB M E L = packR (rnd M (p - E)) (p + 1074).toNat := by unfold spB; rw [← hp]
  rw [hsp] at hfin ⊢
  obtain ⟨r, hr⟩ : ∃ r, r = (p + 1074).toNat := ⟨_, rfl⟩
  obtain ⟨q, hq⟩ : ∃ q, q = rnd M (p - E) := ⟨_, rfl⟩
  rw [← hr, ← hq] at hfin ⊢
  rw [← hq] at h1 h2
  refine ⟨q, r, by unfold packR at hfin ⊢; omega, h1, by omega, ?_⟩
  unfold rnd at hq
  by_cases ht : p - E ≤ 0
  · rw [if_pos ht] at hq
    have hA : M * 2 ^ (E + 4000).toNat = q * U r := by
      rw [hq, Nat.mul_assoc]; unfold U; rw [← Nat.pow_add]; congr 2; omega
    rw [hA]
    refine ⟨by omega, by omega, fun h => Nat.mul_le_mul_right _ (by omega)⟩
  · rw [if_neg ht] at hq
    obtain ⟨t, hte⟩ : ∃ t, t = (p - E).toNat := ⟨_, rfl⟩
    rw [← hte] at hq
    have hU : U r = 2 ^ t * 2 ^ (E + 4000).toNat := by unfold U; rw [← Nat.pow_add]; congr 1; omega
    obtain ⟨k1, k2⟩ := rnd_near M t
    rw [← hq] at k1 k2
    have hK : 0 < 2 ^ (E + 4000).toNat := Nat.pos_of_ne_zero (by simp)
    have hlow : 0 < r → 4503599627370496 * 2 ^ t ≤ M := by
      intro h
      have he : L = 53 + t := by omega
      have := hL.2
      rw [he, Nat.pow_add] at this
      omega
    rw [hU]
    generalize 2 ^ (E + 4000).toNat = K at *
    generalize 2 ^ t = T at *
    have m1 := Nat.mul_le_mul_right K k1
    have m2 := Nat.mul_le_mul_right K k2
    rw [Nat.add_mul, Nat.mul_assoc, Nat.mul_assoc, Nat.mul_assoc] at m1 m2
    refine ⟨m1, m2, fun h => ?_⟩
    have := Nat.mul_le_mul_right K (hlow h)
    rwa [Nat.mul_assoc] at this
end Go.Proofs.YtdaoblhmnafllaaDoor

/-! SnE: Values of neighbours: plain laws. -/
set_option linter.unusedVariables false
set_option linter.unusedSimpArgs false
set_option maxHeartbeats 2000000
set_option maxRecDepth 20000
namespace Go.Proofs.YtdaoblhmnafllaaDoor
open Go.Proofs

theorem unit_sB (neg : Bool) {m : Nat} (h : m ≤ 9218868437227405312) : unit (sB neg m) = if neg then -(vm m : Int) else vm m := by
  obtain ⟨h1, h2, h3⟩ := sB_fields neg h
  obtain ⟨k1, k2, _⟩ := sB_fields false h
  rw [sB_false] at k1 k2
  have hm : mant (sB neg m) = mant m := by unfold mant; rw [h1, h2, k1, k2]
  have he : expo (sB neg m) = expo m := by unfold expo; rw [h1, k1]
  unfold unit vm valZ
  rw [h3, hm, he]
  cases neg
  · simp
  · simp [Int.neg_mul]
theorem sB_mB (neg : Bool) {m : Nat} (h : m ≤ 9218868437227405312) : mB (sB neg m) = sB (!neg) m := by
  have hm : ∀ b, b < 9223372036854775808 → mB b = b + 9223372036854775808 := by
    intro b hb; unfold mB bN; rw [if_neg (by simp; omega)]
  cases neg
  · rfl
  · have : sB true m = mB m := rfl
    rw [this, hm m (by omega)]
    unfold mB bN; rw [if_pos (by simp)]
    show _ = m
    omega
/-- The next one above a finite number. -/
theorem upB_sB (neg : Bool) {m : Nat} (h : m < 9218868437227405312) : upB (sB neg m) = if neg = true ∧ 0 < m then sB true (m - 1) else m + 1 := by
  have hk := kindB_sB neg (b := m) (by omega)
  have hne : ¬ kindB (sB neg m) = 4 := by rw [hk]; split; omega; split; omega; split <;> omega
  have hm : ∀ b, b < 9223372036854775808 → mB b = b + 9223372036854775808 := by
    intro b hb; unfold mB bN; rw [if_neg (by simp; omega)]
  unfold upB
  rw [if_neg hne]
  cases neg
  · rw [sB_false, if_neg (by omega), if_neg (by omega), if_neg (by unfold bN; simp; omega), if_neg (by simp)]
  · have e : sB true m = m + 9223372036854775808 := hm m (by omega)
    have e2 : sB true (m - 1) = m - 1 + 9223372036854775808 := hm _ (by omega)
    rw [e, e2, if_neg (by omega)]
    by_cases h0 : m = 0
    · subst h0; simp
    · rw [if_neg (by omega), if_pos (by unfold bN; simp), if_pos ⟨rfl, by omega⟩]
      omega
end Go.Proofs.YtdaoblhmnafllaaDoor

/-! SnF: Neither neighbour is nearer. -/
set_option linter.unusedVariables false
set_option linter.unusedSimpArgs false
set_option maxHeartbeats 2000000
set_option maxRecDepth 20000
namespace Go.Proofs.YtdaoblhmnafllaaDoor
open Go.Proofs

def sgn (neg : Bool) (a : Nat) : Int := if neg then -(a : Int) else a
theorem sgn_up (neg : Bool) {A u w U : Nat} (h1 : 2 * A ≤ 2 * u + U) (h2 : 2 * u ≤ 2 * A + U) (h : u + U ≤ w) : (sgn neg A - sgn neg u).natAbs ≤ (sgn neg A - sgn neg w).natAbs := by
  unfold sgn; cases neg <;> simp <;> omega
theorem sgn_down (neg : Bool) {A u w U : Nat} (h1 : 2 * A ≤ 2 * u + U) (h2 : 2 * u ≤ 2 * A + U) (h : w + U = u ∨ (u ≤ A ∧ w ≤ u)) : (sgn neg A - sgn neg u).natAbs ≤ (sgn neg A - sgn neg w).natAbs := by
  unfold sgn; cases neg <;> simp <;> omega
theorem sgn_over (neg : Bool) {A w U : Nat} (h1 : 2 * A ≤ U) (h : U ≤ w) : (sgn neg A - sgn neg 0).natAbs ≤ (sgn neg A - sgn (!neg) w).natAbs := by
  unfold sgn; cases neg <;> simp <;> omega
theorem unit_sgn (neg : Bool) {m : Nat} (h : m ≤ 9218868437227405312) : unit (sB neg m) = sgn neg (vm m) := unit_sB neg h
/-- The one above, the one below. -/
theorem next_up (neg : Bool) {m : Nat} (h : m < 9218868437227405312) : (neg = true ∧ 0 < m ∧ upB (sB neg m) = sB neg (m - 1)) ∨ (neg = false ∧ upB (sB neg m) = sB neg (m + 1)) ∨ (m = 0 ∧ upB (sB neg m) = sB (!neg) 1) := by
  rw [upB_sB neg h]
  cases neg
  · right; left; exact ⟨rfl, by rw [if_neg (by simp), sB_false]⟩
  · by_cases h0 : 0 < m
    · left; exact ⟨rfl, h0, by rw [if_pos ⟨rfl, h0⟩]⟩
    · right; right
      have : m = 0 := by omega
      subst this
      exact ⟨rfl, by rw [if_neg (by simp)]; rfl⟩
theorem next_down (neg : Bool) {m : Nat} (h : m < 9218868437227405312) : (0 < m ∧ mB (upB (mB (sB neg m))) = sB neg (m - 1)) ∨ (mB (upB (mB (sB neg m))) = sB neg (m + 1)) ∨ (m = 0 ∧ mB (upB (mB (sB neg m))) = sB (!neg) 1) := by
  rw [sB_mB neg (by omega)]
  rcases next_up (!neg) h with ⟨_, h0, e⟩ | ⟨_, e⟩ | ⟨h0, e⟩
  · left; refine ⟨h0, ?_⟩
    rw [e, sB_mB _ (by omega), Bool.not_not]
  · right; left
    rw [e, sB_mB _ (by omega), Bool.not_not]
  · right; right
    refine ⟨h0, ?_⟩
    rw [e, Bool.not_not]
    have := sB_mB neg (m := 1) (by omega)
    rw [this]
theorem vm_zero : vm 0 = 0 := by rw [vm_low (by decide), Nat.zero_mul]
theorem vm_one : vm 1 = U 0 := by rw [vm_low (by decide), Nat.one_mul]
/-- A neighbour is no nearer. -/
theorem no_nearer (neg : Bool) {A q r m : Nat} (hm : m = r * 4503599627370496 + q) (hfin : m < 9218868437227405312) (hq : q ≤ 9007199254740992) (h : 4503599627370496 ≤ q ∨ r = 0)
    (h1 : 2 * A ≤ 2 * (q * U r) + U r) (h2 : 2 * (q * U r) ≤ 2 * A + U r) (h3 : 0 < r → 4503599627370496 * U r ≤ A) (c : Nat)
    (hc : (0 < m ∧ c = sB neg (m - 1)) ∨ (c = sB neg (m + 1) ∧ m + 1 < 9218868437227405312) ∨ (m = 0 ∧ c = sB (!neg) 1)) : (sgn neg A - unit (sB neg m)).natAbs ≤ (sgn neg A - unit c).natAbs := by
  have hv : vm m = q * U r := by rw [hm]; exact vm_pack hq h (by omega)
  rw [unit_sgn neg (by omega), hv]
  rcases hc with ⟨h0, rfl⟩ | ⟨rfl, hlt⟩ | ⟨h0, rfl⟩
  · rw [unit_sgn neg (by omega)]
    refine sgn_down neg h1 h2 ?_
    rcases vm_down hq h (by omega) (by omega) with k | ⟨k1, k2, k3⟩
    · left; rw [hm]; exact k
    · right
      rw [hm]
      refine ⟨?_, k3⟩
      rw [k1]; exact h3 k2
  · rw [unit_sgn neg (by omega)]
    refine sgn_up neg h1 h2 ?_
    have := vm_up hq h (by rw [← hm]; exact hlt)
    rw [hm]; exact this
  · rw [unit_sgn (!neg) (by omega), vm_one]
    have hq0 : q = 0 := by omega
    have hr0 : r = 0 := by omega
    subst hq0; subst hr0
    rw [Nat.zero_mul] at h1 ⊢
    exact sgn_over neg (by omega) (Nat.le_refl _)
end Go.Proofs.YtdaoblhmnafllaaDoor

/-! SnG: A number in units of 2 to the -4000. -/
set_option linter.unusedVariables false
set_option linter.unusedSimpArgs false
set_option maxHeartbeats 2000000
set_option maxRecDepth 20000
namespace Go.Proofs.YtdaoblhmnafllaaDoor
open Go.Proofs

def vOf (x E : Int) : Int := if topD (dig x.natAbs) E < -2000 then 0 else x * 2 ^ (E + 4000).toNat
theorem vOf_ok {x E : Int} (hM : dyM x = x) (ht : x ≠ 0 → tz x.natAbs = 0) (hz : x = 0 → E = 0) (hs : sz x 60) (htop : topD (dig x.natAbs) E ≤ 1030) (h : ¬ topD (dig x.natAbs) E < -2000) : (∀ i, D (decide (x < 0)) i (dig x.natAbs) E = NV (-4000) (vOf x E) i) ∧ sz (vOf x E) 170 := by
  unfold vOf
  rw [if_neg h]
  by_cases h0 : x = 0
  · subst h0
    have hE := hz rfl
    subst hE
    rw [Int.zero_mul]
    exact ⟨fun i => by simp [NV, dyM, dyE], sz_zero 170⟩
  · have hL := lenW_small hs
    have hb := lenZ_bits h0
    rw [topD_ne h0] at h htop
    have h1 : dyM (x * 2 ^ (E + 4000).toNat) = dyM x := dyM_mul _ _
    have h2 : dyE (x * 2 ^ (E + 4000).toNat) (-4000) = dyE x (-4000 + ((E + 4000).toNat : Nat)) := dyE_mul _ _ _
    rw [show (-4000 : Int) + ((E + 4000).toNat : Nat) = E by omega] at h2
    constructor
    · intro i
      rw [NV_of hM ht h0]
      simp only [NV, h1, h2]
    · unfold sz
      rw [Int.natAbs_mul, natAbs_two_pow]
      have h3 := pow_lim (lenW (dig x.natAbs) + (E + 4000).toNat) 170 (by omega)
      refine Nat.lt_trans ?_ h3
      rw [Nat.pow_add]
      exact Nat.mul_lt_mul_of_pos_right hb.1 (Nat.pos_of_ne_zero (by simp))
theorem top_inf {M L : Nat} {E : Int} (hL : bitsL M L) (h : spB M E L = 9218868437227405312) : 1024 ≤ (L : Int) + E := by
  obtain ⟨h1, h2⟩ := rnd_range (E := E) hL
  unfold spB packR at h
  obtain ⟨p, hp⟩ : ∃ p, p = pexp L E := ⟨_, rfl⟩
  have hp1 : p = L + E - 53 ∧ -1074 ≤ p ∨ p = -1074 ∧ (L : Int) + E - 53 ≤ -1074 := by
    rw [hp]; unfold pexp; split
    · right; exact ⟨rfl, by omega⟩
    · left; omega
  rw [← hp] at h1 h
  generalize rnd M (p - E) = q at *
  omega
theorem fin_top {M L : Nat} {E : Int} (h : spB M E L < 9218868437227405312) : (L : Int) + E ≤ 1030 := by
  rcases Int.lt_or_le 1030 ((L : Int) + E) with k | k
  · rw [far_high k] at h; omega
  · exact k
end Go.Proofs.YtdaoblhmnafllaaDoor

/-! SnH: The law SoftNearest, by value: what the rounded number is to the given one. -/
set_option linter.unusedVariables false
set_option linter.unusedSimpArgs false
set_option maxHeartbeats 2000000
set_option maxRecDepth 20000
namespace Go.Proofs.YtdaoblhmnafllaaDoor
open Go.Proofs

theorem inf_notfin (neg : Bool) : finB (sB neg 9218868437227405312) = false := by cases neg <;> decide
/-- All that the law asks of a number above or below nought. -/
theorem Nearest_facts {x E : Int} (h0 : x ≠ 0) (hM : dyM x = x) (ht : tz x.natAbs = 0) (hs : sz x 60) :
    (finB (sB (decide (x < 0)) (spB x.natAbs E (lenW (dig x.natAbs)))) = false → 1024 ≤ topD (dig x.natAbs) E) ∧
    (finB (sB (decide (x < 0)) (spB x.natAbs E (lenW (dig x.natAbs)))) = true → ∃ v : Int, (topD (dig x.natAbs) E < -2000 → v = 0) ∧ (∀ i, ¬ topD (dig x.natAbs) E < -2000 → D (decide (x < 0)) i (dig x.natAbs) E = NV (-4000) v i ∧ sz v 170) ∧
      ∀ c, (c = upB (sB (decide (x < 0)) (spB x.natAbs E (lenW (dig x.natAbs)))) ∨ c = mB (upB (mB (sB (decide (x < 0)) (spB x.natAbs E (lenW (dig x.natAbs))))))) → finB c = true →
        (v - unit (sB (decide (x < 0)) (spB x.natAbs E (lenW (dig x.natAbs))))).natAbs ≤ (v - unit c).natAbs) := by
  have hb := lenZ_bits h0
  have hL := lenW_small hs
  have htop := topD_ne (e := E) h0
  obtain ⟨L, hLe⟩ : ∃ L, L = lenW (dig x.natAbs) := ⟨_, rfl⟩
  obtain ⟨M, hMe⟩ : ∃ M, M = x.natAbs := ⟨_, rfl⟩
  obtain ⟨neg, hneg⟩ : ∃ neg, neg = decide (x < 0) := ⟨_, rfl⟩
  have hbl : bitsL M L := by rw [hMe, hLe]; exact hb
  have hok := vOf_ok (E := E) hM (fun _ => ht) (fun h => absurd h h0) hs
  rw [htop] at hok ⊢
  rw [← hLe, ← hMe, ← hneg]
  rw [← hLe] at hL hok
  have hle := spB_le M E L
  obtain ⟨m, hm⟩ : ∃ m, m = spB M E L := ⟨_, rfl⟩
  constructor
  · intro hf
    by_cases h : m = 9218868437227405312
    · exact top_inf hbl (by rw [← hm]; exact h)
    · exfalso
      rw [← hm] at hf hle
      have := (sB_fields neg hle).1
      unfold finB at hf
      rw [this] at hf
      simp at hf; omega
  · intro hf
    have hlt : m < 9218868437227405312 := by
      rw [← hm] at hle hf
      rcases Nat.lt_or_ge m 9218868437227405312 with h | h
      · exact h
      · have : m = 9218868437227405312 := by omega
        rw [this, inf_notfin] at hf; cases hf
    have h30 : (L : Int) + E ≤ 1030 := fin_top (by rw [← hm]; exact hlt)
    have hbound : ∀ c, (c = upB (sB neg m) ∨ c = mB (upB (mB (sB neg m)))) → finB c = true → (0 < m ∧ c = sB neg (m - 1)) ∨ (c = sB neg (m + 1) ∧ m + 1 < 9218868437227405312) ∨ (m = 0 ∧ c = sB (!neg) 1) := by
      intro c hc hfc
      have up1 : c = sB neg (m + 1) → m + 1 < 9218868437227405312 := by
        intro h
        rcases Nat.lt_or_ge (m + 1) 9218868437227405312 with k | k
        · exact k
        · have : m + 1 = 9218868437227405312 := by omega
          rw [h, this, inf_notfin] at hfc; cases hfc
      rcases hc with hc | hc
      · rcases next_up neg hlt with ⟨_, k, e⟩ | ⟨_, e⟩ | ⟨k, e⟩
        · exact .inl ⟨k, by rw [hc, e]⟩
        · exact .inr (.inl ⟨by rw [hc, e], up1 (by rw [hc, e])⟩)
        · exact .inr (.inr ⟨k, by rw [hc, e]⟩)
      · rcases next_down neg hlt with ⟨k, e⟩ | e | ⟨k, e⟩
        · exact .inl ⟨k, by rw [hc, e]⟩
        · exact .inr (.inl ⟨by rw [hc, e], up1 (by rw [hc, e])⟩)
        · exact .inr (.inr ⟨k, by rw [hc, e]⟩)
    rw [← hm]
    by_cases hfar : (L : Int) + E < -2000
    · refine ⟨0, fun _ => rfl, fun i h => absurd hfar h, fun c hc hfc => ?_⟩
      have hm0 : m = 0 := by rw [hm]; exact (far_low hbl (by omega)).1
      have := no_nearer neg (A := 0) (q := 0) (r := 0) (m := m) (by omega) hlt (by omega) (.inr rfl) (by omega) (by omega) (fun h => by omega) c (hbound c hc hfc)
      have z : sgn neg 0 = 0 := by cases neg <;> rfl
      rwa [z] at this
    · obtain ⟨q, r, k1, k2, k3, k4, k5, k6⟩ := near_units (E := E) hbl (by omega) (by rw [← hm]; exact hlt)
      obtain ⟨o1, o2⟩ := hok h30 hfar
      rw [← hm] at k1
      refine ⟨vOf x E, fun h => absurd h hfar, fun i _ => ⟨?_, o2⟩, fun c hc hfc => ?_⟩
      · have := o1 i; rw [← hMe, ← hneg] at this; exact this
      · have := no_nearer neg k1 hlt k2 k3 k4 k5 k6 c (hbound c hc hfc)
        have z : sgn neg (M * 2 ^ (E + 4000).toNat) = vOf x E := by
          unfold vOf; rw [htop, ← hLe, if_neg hfar]
          unfold sgn
          rw [hneg]
          by_cases hx : x < 0
          · rw [if_pos (by simpa using hx)]
            have : x = -(M : Int) := by omega
            rw [this]; simp [Int.neg_mul]
          · rw [if_neg (by simpa using hx)]
            have : x = (M : Int) := by omega
            rw [this]; simp
        rwa [z] at this
end Go.Proofs.YtdaoblhmnafllaaDoor

/-! SnI: The law SoftNearest, by value: the walk (printed by wip/mkn.py). -/
set_option linter.unusedVariables false
set_option linter.unusedSimpArgs false
set_option maxHeartbeats 4000000
set_option maxRecDepth 20000
namespace Go.Proofs.YtdaoblhmnafllaaDoor
open Go.Proofs

theorem upB_lt {b : Nat} (hb : b < 18446744073709551616) (hf : finB b = true) : upB b < 18446744073709551616 := by
  unfold finB at hf; simp at hf
  unfold bP at hf
  unfold upB bN
  split
  · exact hb
  · split
    · exact hb
    · split
      · omega
      · split <;> omega
theorem top_field (c : Nat) : (c + 9223372036854775808) / 4503599627370496 % 2048 = c / 4503599627370496 % 2048 := by
  rw [show c + 9223372036854775808 = c + 4503599627370496 * 2048 from rfl, Nat.add_mul_div_left _ _ (by decide), Nat.add_mod_right]
theorem finB_mB {b : Nat} (hb : b < 18446744073709551616) : finB (mB b) = finB b := by
  unfold finB bP mB bN
  by_cases h : 9223372036854775808 ≤ b
  · simp only [h, decide_true, if_true]
    have := top_field (b - 9223372036854775808)
    rw [Nat.sub_add_cancel h] at this
    rw [this]
  · simp only [h, decide_false, Bool.false_eq_true, if_false]; rw [top_field]
theorem NearestLaw_call {n : Nat} (hn : 0 < n) (neg : Bool) (i : Sid) (hi : i.f < n) (l : List Nat) (E : Int) (hl : l.length < 35184372088800) (ll : Lim l) : PCall Tryd.prog 8 [D neg i l E] n (fun v _ D => v = .bool true ∧ D = []) := by
  refine of8 hn ?_
  by_cases h60 : 60 < l.length
  · simp (disch := omega) [c8, h60]
    refine CallK.of (by simp) (awake_call hn fun n' g => ?_)
    (simp (disch := omega) [g] <;> omega)
  · cases hr : rightD neg l E
    · simp (disch := omega) [c8, h60]
      refine CallK.of (by simp) (RightD_call hn neg i l E hl ll ?_)
      simp (disch := omega) [hr]
      refine CallK.of (by simp) (awake_call hn fun n' g => ?_)
      (simp (disch := omega) [g] <;> omega)
    · obtain ⟨x, rfl, rfl, hx, hE1, hE2, hM, hz, hodd⟩ := rightD_Z hr ll
      have hE : -16384 ≤ E ∧ E ≤ 16384 := ⟨hE1, hE2⟩
      have hv60 := val_lt (Lim.dig x.natAbs)
      rw [val_dig] at hv60
      have hs60 : sz x 60 := Nat.lt_of_lt_of_le hv60 (Nat.pow_le_pow_right (by omega) (by omega))
      obtain ⟨b, gf, hb, hround, hnf, hfin⟩ : ∃ (b : Nat) (gf : Int), b < 18446744073709551616 ∧ (∀ {Q : PV → Nat → List Nat → Prop}, (∀ n', n ≤ n' → Q (.tup [.int .u64 b, .int .u8 gf, .int .i64 0]) n' []) → PCall Tryd.prog 23 [D (decide (x < 0)) i (dig x.natAbs) E] n Q) ∧ (finB b = false → 1024 ≤ topD (dig x.natAbs) E) ∧
          (finB b = true → ∃ v : Int, (topD (dig x.natAbs) E < -2000 → v = 0) ∧ (∀ i, ¬ topD (dig x.natAbs) E < -2000 → D (decide (x < 0)) i (dig x.natAbs) E = NV (-4000) v i ∧ sz v 170) ∧ ∀ c, (c = upB b ∨ c = mB (upB (mB b))) → finB c = true → (v - unit b).natAbs ≤ (v - unit c).natAbs) := by
        by_cases h0 : x = 0
        · subst h0
          have hd : dig (0 : Int).natAbs = [] := dig_zero
          refine ⟨0, 0, by omega, fun h => Round_call hn _ i hi _ E hl ll (fun h => by rw [hr] at h; cases h) (fun _ _ => h) (fun _ k => absurd hd k), fun h => by simp [finB, bP] at h, fun _ => ⟨0, fun _ => rfl, fun i _ => ⟨?_, sz_zero _⟩, fun c _ _ => ?_⟩⟩
          · have := hz rfl
            subst this
            simp [NV, dyM, dyE]
          · have : unit 0 = 0 := by unfold unit; rw [show valZ 0 = 0 by decide]; simp
            rw [this]; simp
        · have hne := (dig_ne h0).2
          obtain ⟨f1, f2⟩ := Nearest_facts (E := E) h0 hM (hodd h0) hs60
          refine ⟨_, flg (spB (val (dig x.natAbs)) E (lenW (dig x.natAbs))) (spX (val (dig x.natAbs)) E (lenW (dig x.natAbs))), sB_lt (neg := decide (x < 0)) (spB_le x.natAbs E (lenW (dig x.natAbs))), fun h => Round_call hn _ i hi _ E hl ll (fun h => by rw [hr] at h; cases h) (fun _ k => absurd k hne) (fun _ _ n' g => ?_), f1, f2⟩
          have := h n' g
          rw [val_dig] at this ⊢
          exact this
      simp (disch := omega) [c8, h60]
      refine CallK.of (by simp) (RightD_call hn _ i _ E hl ll ?_)
      simp (disch := omega) [hr]
      refine CallK.of (by simp) (hround fun n0 g0 => ?_)
      simp (disch := omega) [g0]
      refine CallK.of (by simp) (RefFiniteB_call (by omega) b hb ?_)
      cases hfb : finB b
      · have ht := hnf hfb
        simp (disch := omega) [g0, hfb]
        refine CallK.of (by simp) (RefTopD_call (by omega) _ i _ E (by omega) (Lim.dig _) (by omega) ?_)
        simp (disch := omega) [g0, ht]
        refine CallK.of (by simp) (awake_call (by omega) fun n' g => ?_)
        (simp (disch := omega) [g0, g] <;> omega)
      · have hub := upB_lt hb hfb
        have hub2 := upB_lt (mB_lt hb) (by rw [finB_mB hb]; exact hfb)
        obtain ⟨v, hv1, hv2, hnn⟩ := hfin hfb
        have hvs : sz v 170 := by
          by_cases h : topD (dig x.natAbs) E < -2000
          · rw [hv1 h]; exact sz_zero _
          · exact (hv2 i h).2
        have cmpC : ∀ (c : Nat) (i2 i3 : Sid) (n2 : Nat), 0 < n2 → i2.f < n2 → i3.f < n2 → c < 18446744073709551616 → (v - unit b).natAbs ≤ (v - unit c).natAbs → ∀ {Q' : PV → Nat → List Nat → Prop}, (∀ (n' : Nat), n2 ≤ n' → ∀ z : Int, ¬ z < 0 → Q' (.int .i64 z) n' []) → PCall Tryd.prog 25 [NV (-4000) ((v - unit c).natAbs : Int) i2, NV (-4000) ((v - unit b).natAbs : Int) i3] n2 Q' := by
          intro c i2 i3 n2 k0 k1 k2 _ hle Q' hq
          have s1 : sz (((v - unit c).natAbs : Nat) : Int) 171 := by have := hvs.sub (sz_unit c); unfold sz at *; rwa [Int.natAbs_natCast]
          have s2 : sz (((v - unit b).natAbs : Nat) : Int) 171 := by have := hvs.sub (sz_unit b); unfold sz at *; rwa [Int.natAbs_natCast]
          refine CompareNV_call k0 i2 i3 k1 k2 s1 s2 (by omega) (by omega) fun n' g => hq n' g _ ?_
          have := cmpZ_cases (((v - unit c).natAbs : Int) - ((v - unit b).natAbs : Int))
          omega
        simp (disch := omega) [g0, hfb]
        refine CallK.of (by simp) (distance_call (by omega) x E v i (by omega) hx hE (fun h => hv1 h) (fun h => hv2 i h) b hb fun i1 n1 g1 b1 => ?_)
        simp (disch := omega) [g0, g1]
        refine CallK.of (by simp) (Up_call (by omega) b hb ?_)
        simp (disch := omega) [g0, g1]
        refine CallK.of (by simp) (Minus_call (by omega) b hb ?_)
        simp (disch := omega) [g0, g1]
        refine CallK.of (by simp) (Up_call (by omega) (mB b) (mB_lt hb) ?_)
        simp (disch := omega) [g0, g1]
        refine CallK.of (by simp) (Minus_call (by omega) (upB (mB b)) hub2 ?_)
        simp (disch := omega) [g0, g1]
        refine CallK.of (by simp) (RefFiniteB_call (by omega) (upB b) hub ?_)
        cases hfu : finB (upB b)
        · simp (disch := omega) [g0, g1, hfu]
          refine CallK.of (by simp) (RefFiniteB_call (by omega) (mB (upB (mB b))) (mB_lt hub2) ?_)
          cases hfd : finB (mB (upB (mB b)))
          · simp (disch := omega) [g0, g1, hfd]
            refine CallK.of (by simp) (awake_call (by omega) fun n' g => ?_)
            (simp (disch := omega) [g0, g1, g] <;> omega)
          · simp (disch := omega) [g0, g1, hfd]
            refine CallK.of (by simp) (distance_call (by omega) x E v i (by omega) hx hE (fun h => hv1 h) (fun h => hv2 i h) _ (mB_lt hub2) fun i5 n5 g5 b5 => ?_)
            simp (disch := omega) [g0, g1, g5]
            refine CallK.of (by simp) (cmpC _ i5 i1 n5 (by omega) b5 (by omega) (mB_lt hub2) (hnn _ (.inr rfl) hfd) fun n6 g6 z hz => ?_)
            simp (disch := omega) [g0, g1, g5, g6, hz]
            refine CallK.of (by simp) (awake_call (by omega) fun n' g => ?_)
            (simp (disch := omega) [g0, g1, g, g5, g6] <;> omega)
        · simp (disch := omega) [g0, g1, hfu]
          refine CallK.of (by simp) (distance_call (by omega) x E v i (by omega) hx hE (fun h => hv1 h) (fun h => hv2 i h) _ hub fun i2 n2 g2 b2 => ?_)
          simp (disch := omega) [g0, g1, g2]
          refine CallK.of (by simp) (cmpC _ i2 i1 n2 (by omega) b2 (by omega) hub (hnn _ (.inl rfl) hfu) fun n3 g3 z hz => ?_)
          simp (disch := omega) [g0, g1, g2, g3, hz]
          refine CallK.of (by simp) (RefFiniteB_call (by omega) (mB (upB (mB b))) (mB_lt hub2) ?_)
          cases hfd : finB (mB (upB (mB b)))
          · simp (disch := omega) [g0, g1, g2, g3, hfd]
            refine CallK.of (by simp) (awake_call (by omega) fun n' g => ?_)
            (simp (disch := omega) [g0, g1, g2, g3, g] <;> omega)
          · simp (disch := omega) [g0, g1, g2, g3, hfd]
            refine CallK.of (by simp) (distance_call (by omega) x E v i (by omega) hx hE (fun h => hv1 h) (fun h => hv2 i h) _ (mB_lt hub2) fun i5 n5 g5 b5 => ?_)
            simp (disch := omega) [g0, g1, g2, g3, g5]
            refine CallK.of (by simp) (cmpC _ i5 i1 n5 (by omega) b5 (by omega) (mB_lt hub2) (hnn _ (.inr rfl) hfd) fun n6 g6 z' hz' => ?_)
            simp (disch := omega) [g0, g1, g2, g3, g5, g6, hz']
            refine CallK.of (by simp) (awake_call (by omega) fun n' g => ?_)
            (simp (disch := omega) [g0, g1, g2, g3, g, g5, g6] <;> omega)
end Go.Proofs.YtdaoblhmnafllaaDoor
