/- Numbers in units of a power of two: sums and products of them, by value. -/
import Derived.Test.YtaankihkejodgaaDoorDyG
set_option linter.unusedVariables false
set_option linter.unusedSimpArgs false
namespace Go.Proofs.YtaankihkejodgaaDoor
open Go.Proofs

theorem dyM_mul (x : Int) (k : Nat) : dyM (x * 2 ^ k) = dyM x := by
  by_cases h0 : x = 0
  · subst h0; simp
  · have hp : (2 : Int) ^ k ≠ 0 := by have := two_pow_pos' k; omega
    have h1 : x * 2 ^ k ≠ 0 := Int.mul_ne_zero h0 hp
    have ha : (x * 2 ^ k).natAbs = x.natAbs * 2 ^ k := by rw [Int.natAbs_mul, natAbs_two_pow]
    have hd := tz_down (x := x * 2 ^ k) (k := k) h1 (by rw [ha]; exact Nat.mul_mod_left _ _)
    rw [Int.mul_tdiv_cancel _ hp] at hd
    exact hd.2.2.1.symm
theorem tz_mul2 {x : Int} (h0 : x ≠ 0) (k : Nat) : tz (x * 2 ^ k).natAbs = k + tz x.natAbs := by
  have hp : (2 : Int) ^ k ≠ 0 := by have := two_pow_pos' k; omega
  have h1 : x * 2 ^ k ≠ 0 := Int.mul_ne_zero h0 hp
  have ha : (x * 2 ^ k).natAbs = x.natAbs * 2 ^ k := by rw [Int.natAbs_mul, natAbs_two_pow]
  have hd := tz_down (x := x * 2 ^ k) (k := k) h1 (by rw [ha]; exact Nat.mul_mod_left _ _)
  rw [Int.mul_tdiv_cancel _ hp] at hd
  exact hd.2.1
theorem dyE_mul (x E : Int) (k : Nat) : dyE (x * 2 ^ k) E = dyE x (E + k) := by
  by_cases h0 : x = 0
  · subst h0; simp [dyE]
  · have hp : (2 : Int) ^ k ≠ 0 := by have := two_pow_pos' k; omega
    have h1 : x * 2 ^ k ≠ 0 := Int.mul_ne_zero h0 hp
    unfold dyE
    rw [if_neg h0, if_neg h1, tz_mul2 h0]
    omega
/-- A number's odd part, and what it is of the number. -/
theorem dyM_back {v : Int} (h : v ≠ 0) : dyM v ≠ 0 ∧ v = dyM v * 2 ^ tz v.natAbs ∧ dyM (dyM v) = dyM v := by
  obtain ⟨o, h1, h2, h3⟩ := dyM_abs h
  have hd := tz_down (x := v) (k := tz v.natAbs) h (by rw [h2]; rw [tz_mul _ h1]; exact Nat.mul_mod_right _ _)
  have e : dyM v = v.tdiv (2 ^ tz v.natAbs) := by
    unfold dyM
    rw [if_neg h]
    unfold shZ
    by_cases hz : tz v.natAbs = 0
    · rw [if_pos (by omega), hz]; simp
    · rw [if_neg (by omega), Int.neg_neg, Int.toNat_natCast]
  have hne : dyM v ≠ 0 := fun h0 => by rw [h0] at h3; simp at h3; omega
  refine ⟨hne, ?_, ?_⟩
  · rw [e]
    refine (Int.tdiv_mul_cancel ?_).symm
    refine Int.natAbs_dvd_natAbs.1 ?_
    rw [natAbs_two_pow, h2, tz_mul _ h1]
    exact Nat.dvd_mul_right _ _
  · rw [e, hd.2.2.1, ← e]
theorem rightD_V {v L : Int} (h : sz v 512) (hok : dyOk v L = true) : rightD (decide (dyM v < 0)) (dig (dyM v).natAbs) (dyE v L) = true := by
  have := dyOk_right (e := L) h
  rw [hok] at this
  exact this
/-- In units of 2 to the L, how great the power can be. -/
theorem dyE_le {v L : Int} {k : Nat} (h : v ≠ 0) (hv : sz v k) : L ≤ dyE v L ∧ dyE v L + lenW (dig (dyM v).natAbs) ≤ L + 32 * k := by
  obtain ⟨h1, h2, _⟩ := dyM_back h
  have hs : sz (shZ (dyM v) (tz v.natAbs : Nat)) k := by
    have : shZ (dyM v) (tz v.natAbs : Nat) = v := by
      unfold shZ; rw [if_pos (by omega), Int.toNat_natCast]; exact h2.symm
    rw [this]; exact hv
  have := (big_shift h1 (tz v.natAbs) k).1 hs
  unfold dyE
  rw [if_neg h]
  omega
theorem dyOk_V {v L : Int} {k : Nat} (hv : sz v k) (hL : -16384 ≤ L ∧ L + 32 * k ≤ 16384) : dyOk v L = true := by
  by_cases h : v = 0
  · simp [dyOk, h]
  · have := dyE_le (L := L) h hv
    unfold dyOk
    simp; right; omega
theorem low_V {v w L : Int} {k : Nat} (hv : sz v k) (hw : sz w k) (hk : k ≤ 255) :
    wideD (dyM v) (dyM w) (dyE v L) (dyE w L) = false ∧ dyM (sumZ (dyM v) (dyM w) (dyE v L) (dyE w L)) = dyM (v + w) ∧ dyE (sumZ (dyM v) (dyM w) (dyE v L) (dyE w L)) (lowE (dyM v) (dyM w) (dyE v L) (dyE w L)) = dyE (v + w) L ∧ sz (sumZ (dyM v) (dyM w) (dyE v L) (dyE w L)) 512 := by
  have z1 : dyM 0 = 0 := by simp [dyM]
  have key : ∀ v w : Int, sz v k → sz w k → v ≠ 0 → w ≠ 0 ∨ w = 0 → True := fun _ _ _ _ _ _ => trivial
  have wid : ∀ (v E : Int), sz v k → (v ≠ 0 → L ≤ E) → widE (dyM v) (dyE v L) E = false := by
    intro v E hv hE
    by_cases h : v = 0
    · subst h; simp [widE, z1]
    · have h1 := dyE_le (L := L) h hv
      have h2 := hE h
      unfold widE
      simp; intro _; omega
  have levV : ∀ (v E : Int), v ≠ 0 → L ≤ E → E ≤ dyE v L → lev (dyM v) (dyE v L) E * 2 ^ (E - L).toNat = v := by
    intro v E h h1 h2
    obtain ⟨q1, q2, q3⟩ := dyM_back h
    unfold lev
    rw [if_neg q1]
    unfold shZ
    rw [if_pos (by omega), Int.mul_assoc, ← Int.pow_add]
    have : (dyE v L - E).toNat + (E - L).toNat = tz v.natAbs := by
      have : dyE v L = L + tz v.natAbs := by unfold dyE; rw [if_neg h]
      omega
    rw [this]; exact q2.symm
  have fin : ∀ (E : Int), L ≤ E → sumZ (dyM v) (dyM w) (dyE v L) (dyE w L) * 2 ^ (E - L).toNat = v + w → lowE (dyM v) (dyM w) (dyE v L) (dyE w L) = E →
      dyM (sumZ (dyM v) (dyM w) (dyE v L) (dyE w L)) = dyM (v + w) ∧ dyE (sumZ (dyM v) (dyM w) (dyE v L) (dyE w L)) (lowE (dyM v) (dyM w) (dyE v L) (dyE w L)) = dyE (v + w) L := by
    intro E h1 h2 h3
    rw [← h2, dyM_mul, dyE_mul, h3]
    exact ⟨rfl, by congr 1; omega⟩
  have hsz : wideD (dyM v) (dyM w) (dyE v L) (dyE w L) = false → sz (sumZ (dyM v) (dyM w) (dyE v L) (dyE w L)) 512 := by
    intro h
    refine sumZ_sz ((sz_dyM hv).mono hk) ((sz_dyM hw).mono hk) ?_ ?_ h
    · intro h0
      by_cases hh : v = 0
      · simp [dyE, hh]
      · exact absurd h0 (dyM_back hh).1
    · intro h0
      by_cases hh : w = 0
      · simp [dyE, hh]
      · exact absurd h0 (dyM_back hh).1
  by_cases hv0 : v = 0
  · by_cases hw0 : w = 0
    · subst hv0; subst hw0
      have hwd : wideD (dyM 0) (dyM 0) (dyE 0 L) (dyE 0 L) = false := by simp [wideD, widE, z1]
      refine ⟨hwd, ?_, ?_, hsz hwd⟩
      · simp [sumZ, lev, z1]
      · simp [sumZ, lev, z1, dyE]
    · subst hv0
      have hm := (dyM_back hw0).1
      have hE : lowE (dyM 0) (dyM w) (dyE 0 L) (dyE w L) = dyE w L := by unfold lowE; rw [if_pos z1]
      have h1 := dyE_le (L := L) hw0 hw
      have hwd : wideD (dyM 0) (dyM w) (dyE 0 L) (dyE w L) = false := by
        unfold wideD; rw [hE, wid 0 _ hv (fun h => absurd rfl h), wid w _ hw (fun _ => h1.1)]; rfl
      have hs : sumZ (dyM 0) (dyM w) (dyE 0 L) (dyE w L) * 2 ^ (dyE w L - L).toNat = 0 + w := by
        unfold sumZ
        rw [hE, show lev (dyM 0) (dyE 0 L) (dyE w L) = 0 by simp [lev, z1], Int.zero_add, Int.zero_add]
        exact levV w _ hw0 h1.1 (Int.le_refl _)
      obtain ⟨a1, a2⟩ := fin _ h1.1 hs hE
      exact ⟨hwd, a1, a2, hsz hwd⟩
  · by_cases hw0 : w = 0
    · subst hw0
      have hm := (dyM_back hv0).1
      have hE : lowE (dyM v) (dyM 0) (dyE v L) (dyE 0 L) = dyE v L := by unfold lowE; rw [if_neg hm, if_pos z1]
      have h1 := dyE_le (L := L) hv0 hv
      have hwd : wideD (dyM v) (dyM 0) (dyE v L) (dyE 0 L) = false := by
        unfold wideD; rw [hE, wid v _ hv (fun _ => h1.1), wid 0 _ hw (fun h => absurd rfl h)]; rfl
      have hs : sumZ (dyM v) (dyM 0) (dyE v L) (dyE 0 L) * 2 ^ (dyE v L - L).toNat = v + 0 := by
        unfold sumZ
        rw [hE, show lev (dyM 0) (dyE 0 L) (dyE v L) = 0 by simp [lev, z1], Int.add_zero, Int.add_zero]
        exact levV v _ hv0 h1.1 (Int.le_refl _)
      obtain ⟨a1, a2⟩ := fin _ h1.1 hs hE
      exact ⟨hwd, a1, a2, hsz hwd⟩
    · have hm := (dyM_back hv0).1
      have hm2 := (dyM_back hw0).1
      have h1 := dyE_le (L := L) hv0 hv
      have h2 := dyE_le (L := L) hw0 hw
      have hE : lowE (dyM v) (dyM w) (dyE v L) (dyE w L) = min (dyE v L) (dyE w L) := by unfold lowE; rw [if_neg hm, if_neg hm2]
      have hwd : wideD (dyM v) (dyM w) (dyE v L) (dyE w L) = false := by
        unfold wideD; rw [hE, wid v _ hv (fun _ => by omega), wid w _ hw (fun _ => by omega)]; rfl
      have hs : sumZ (dyM v) (dyM w) (dyE v L) (dyE w L) * 2 ^ (min (dyE v L) (dyE w L) - L).toNat = v + w := by
        unfold sumZ
        rw [hE, Int.add_mul, levV v _ hv0 (by omega) (by omega), levV w _ hw0 (by omega) (by omega)]
      obtain ⟨a1, a2⟩ := fin _ (by omega) hs hE
      exact ⟨hwd, a1, a2, hsz hwd⟩

/-- The number v times 2 to the L. -/
abbrev NV (L v : Int) (i : Sid) : PV := D (decide (dyM v < 0)) i (dig (dyM v).natAbs) (dyE v L)
theorem dyE_zero {v L : Int} (h : dyM v = 0) : dyE v L = 0 := by
  by_cases hh : v = 0
  · simp [dyE, hh]
  · exact absurd h (dyM_back hh).1
theorem Add_V {n : Nat} (hn : 0 < n) (L v w s : Int) (ia ib : Sid) (k : Nat) (hv : sz v k) (hw : sz w k) (hk : k ≤ 255) (hL : -16384 ≤ L ∧ L + 32 * (k + 1) ≤ 16384) (hs : v + w = s) {Q : PV → Nat → List Nat → Prop}
    (hQ : ∀ (i' : Sid) (n' : Nat), n ≤ n' → newSid n n' i' → Q (.tup [NV L s i', .int .i64 0]) n' []) : PCall Tryd.prog 24 [NV L v ia, NV L w ib] n Q := by
  obtain ⟨q1, q2, q3, q4⟩ := low_V (L := L) hv hw hk
  have ok1 := dyOk_V (L := L) hv (by omega)
  have ok2 := dyOk_V (L := L) hw (by omega)
  have ok3 : dyOk (v + w) L = true := dyOk_V (hv.add hw) (by omega)
  refine AddD_Z hn (dyM v) (dyM w) (dyE v L) (dyE w L) ia ib ((sz_dyM hv).mono hk) ((sz_dyM hw).mono hk) (rightD_V (hv.mono (by omega)) ok1) (rightD_V (hw.mono (by omega)) ok2) dyE_zero dyE_zero fun i n' an al ae err g1 d1 ha => ?_
  unfold ansD at ha
  rw [q1] at ha
  simp only [Bool.false_eq_true, if_false, if_true] at ha
  have hok : dyOk (sumZ (dyM v) (dyM w) (dyE v L) (dyE w L)) (lowE (dyM v) (dyM w) (dyE v L) (dyE w L)) = true := by
    have h1 := dyOk_right (e := lowE (dyM v) (dyM w) (dyE v L) (dyE w L)) q4
    have h2 := rightD_V ((hv.add hw).mono (show k + 1 ≤ 512 by omega)) ok3
    rw [← q2, ← q3] at h2
    exact h1.symm.trans h2
  rw [if_pos hok, q2, q3, hs] at ha
  obtain ⟨rfl, rfl, rfl, rfl⟩ := ha
  exact hQ i n' g1 d1
theorem dyM_neg (v : Int) : dyM (-v) = - dyM v := by
  unfold dyM
  by_cases h : v = 0
  · subst h; rfl
  · rw [if_neg h, if_neg (by omega), Int.natAbs_neg, shZ_negate]
theorem dyE_neg (v L : Int) : dyE (-v) L = dyE v L := by
  unfold dyE
  by_cases h : v = 0
  · subst h; rfl
  · rw [if_neg h, if_neg (by omega), Int.natAbs_neg]
theorem Sub_V {n : Nat} (hn : 0 < n) (L v w s : Int) (ia ib : Sid) (k : Nat) (hv : sz v k) (hw : sz w k) (hk : k ≤ 255) (hL : -16384 ≤ L ∧ L + 32 * (k + 1) ≤ 16384) (hs : v - w = s) {Q : PV → Nat → List Nat → Prop}
    (hQ : ∀ (i' : Sid) (n' : Nat), n ≤ n' → newSid n n' i' → Q (.tup [NV L s i', .int .i64 0]) n' []) : PCall Tryd.prog 25 [NV L v ia, NV L w ib] n Q := by
  obtain ⟨q1, q2, q3, q4⟩ := low_V (L := L) hv (sz_neg hw) hk
  rw [dyM_neg, dyE_neg] at q1 q2 q3 q4
  have hw1 := wideD_neg (dyM v) (dyM w) (dyE v L) (dyE w L)
  have hlow := lowE_neg (dyM v) (dyM w) (dyE v L) (dyE w L)
  rw [hw1] at q1
  rw [hlow] at q3
  have ok1 := dyOk_V (L := L) hv (by omega)
  have ok2 := dyOk_V (L := L) hw (by omega)
  have hsv : sz (v + -w) (k + 1) := hv.add (sz_neg hw)
  have ok3 : dyOk (v + -w) L = true := dyOk_V hsv (by omega)
  refine SubD_Z hn (dyM v) (dyM w) (dyE v L) (dyE w L) ia ib ((sz_dyM hv).mono hk) ((sz_dyM hw).mono hk) (rightD_V (hv.mono (by omega)) ok1) (rightD_V (hw.mono (by omega)) ok2) dyE_zero dyE_zero fun i n' an al ae err g1 d1 ha => ?_
  unfold ansD at ha
  rw [q1] at ha
  simp only [Bool.false_eq_true, if_false, if_true] at ha
  have hok : dyOk (sumZ (dyM v) (-dyM w) (dyE v L) (dyE w L)) (lowE (dyM v) (dyM w) (dyE v L) (dyE w L)) = true := by
    have h1 := dyOk_right (e := lowE (dyM v) (dyM w) (dyE v L) (dyE w L)) q4
    have h2 := rightD_V (hsv.mono (show k + 1 ≤ 512 by omega)) ok3
    rw [← q2, ← q3] at h2
    exact h1.symm.trans h2
  rw [if_pos hok, q2, q3, show v + -w = s by omega] at ha
  obtain ⟨rfl, rfl, rfl, rfl⟩ := ha
  exact hQ i n' g1 d1
theorem prod_V (v w L L2 : Int) : dyM (dyM v * dyM w) = dyM (v * w) ∧ dyE (dyM v * dyM w) (dyE v L + dyE w L2) = dyE (v * w) (L + L2) := by
  by_cases hv : v = 0
  · subst hv; simp [dyM, dyE]
  · by_cases hw : w = 0
    · subst hw; simp [dyM, dyE]
    · have e1 := (dyM_back hv).2.1
      have e2 := (dyM_back hw).2.1
      have e3 : v * w = dyM v * dyM w * 2 ^ (tz v.natAbs + tz w.natAbs) := by
        rw [Int.pow_add, Int.mul_assoc, Int.mul_left_comm (dyM w), ← Int.mul_assoc (dyM v), ← e1, ← e2]
      have d1 : dyE v L = L + tz v.natAbs := by unfold dyE; rw [if_neg hv]
      have d2 : dyE w L2 = L2 + tz w.natAbs := by unfold dyE; rw [if_neg hw]
      rw [e3, dyM_mul, dyE_mul, d1, d2]
      exact ⟨rfl, by congr 1; omega⟩
theorem Mul_V {n : Nat} (hn : 0 < n) (L L2 v w s : Int) (ia ib : Sid) (hia : ia.f < n) (hib : ib.f < n) (k m : Nat) (hv : sz v k) (hw : sz w m) (hk : k + m ≤ 512) (hL : -16384 ≤ L ∧ L + 32 * k ≤ 16384) (hL2 : -16384 ≤ L2 ∧ L2 + 32 * m ≤ 16384) (hLL : -16384 ≤ L + L2 ∧ L + L2 + 32 * (k + m) ≤ 16384) (hs : v * w = s) {Q : PV → Nat → List Nat → Prop}
    (hQ : ∀ (i' : Sid) (n' : Nat), n ≤ n' → newSid n n' i' → Q (.tup [NV (L + L2) s i', .int .i64 0]) n' []) : PCall Tryd.prog 19 [NV L v ia, NV L2 w ib] n Q := by
  have ok1 := dyOk_V (L := L) hv (by omega)
  have ok2 := dyOk_V (L := L2) hw (by omega)
  have r1 := rightD_V (hv.mono (by omega)) ok1
  have r2 := rightD_V (hw.mono (by omega)) ok2
  have he := rightD_E r1
  have hf := rightD_E r2
  have ok3 : dyOk (v * w) (L + L2) = true := dyOk_V (hv.mul hw) (by omega)
  obtain ⟨q1, q2⟩ := prod_V v w L L2
  have sq : sz (dyM v * dyM w) 512 := ((sz_dyM hv).mul (sz_dyM hw)).mono hk
  refine MulD_Z hn (dyM v) (dyM w) (dyM v * dyM w) (dyE v L) (dyE w L2) ia ib hia hib k m (sz_dyM hv) (sz_dyM hw) hk rfl r1 r2 he hf fun i n' g1 d1 => ?_
  have hok : dyOk (dyM v * dyM w) (dyE v L + dyE w L2) = true := by
    have h1 := dyOk_right (e := dyE v L + dyE w L2) sq
    have h2 := rightD_V ((hv.mul hw).mono hk) ok3
    rw [← q1, ← q2] at h2
    exact h1.symm.trans h2
  rw [if_pos hok, q1, q2, hs]
  exact hQ i n' g1 d1
theorem NV_self (L v : Int) (i : Sid) : NV (dyE v L) (dyM v) i = NV L v i := by
  by_cases h : v = 0
  · subst h; simp [NV, dyM, dyE]
  · obtain ⟨h1, _, h2⟩ := dyM_back h
    have h3 : dyE (dyM v) (dyE v L) = dyE v L := by
      have ht : tz (dyM v).natAbs = 0 := by
        obtain ⟨o, a1, _, a3⟩ := dyM_abs h
        rw [a3]; exact tz_odd a1
      rw [dyE, if_neg h1, ht]; simp
    simp only [NV, h2, h3]
/-- The second one in its own units. -/
theorem Mul_VR {n : Nat} (hn : 0 < n) (L v w s : Int) (ia ib : Sid) (hia : ia.f < n) (hib : ib.f < n) (k m : Nat) (hv : sz v k) (hw : sz (dyM w) m) (hk : k + m ≤ 512) (hL : -16384 ≤ L ∧ L + 32 * k ≤ 16384) (hL2 : -16384 ≤ dyE w L ∧ dyE w L + 32 * m ≤ 16384) (hLL : -16384 ≤ L + dyE w L ∧ L + dyE w L + 32 * (k + m) ≤ 16384) (hs : v * dyM w = s) {Q : PV → Nat → List Nat → Prop}
    (hQ : ∀ (i' : Sid) (n' : Nat), n ≤ n' → newSid n n' i' → Q (.tup [NV (L + dyE w L) s i', .int .i64 0]) n' []) : PCall Tryd.prog 19 [NV L v ia, NV L w ib] n Q := by
  rw [← NV_self L w ib]
  exact Mul_V hn L (dyE w L) v (dyM w) s ia ib hia hib k m hv hw hk hL hL2 hLL hs hQ
theorem Mul_VL {n : Nat} (hn : 0 < n) (L v w s : Int) (ia ib : Sid) (hia : ia.f < n) (hib : ib.f < n) (k m : Nat) (hv : sz v k) (hw : sz (dyM w) m) (hk : k + m ≤ 512) (hL : -16384 ≤ L ∧ L + 32 * k ≤ 16384) (hL2 : -16384 ≤ dyE w L ∧ dyE w L + 32 * m ≤ 16384) (hLL : -16384 ≤ L + dyE w L ∧ L + dyE w L + 32 * (k + m) ≤ 16384) (hs : v * dyM w = s) {Q : PV → Nat → List Nat → Prop}
    (hQ : ∀ (i' : Sid) (n' : Nat), n ≤ n' → newSid n n' i' → Q (.tup [NV (L + dyE w L) s i', .int .i64 0]) n' []) : PCall Tryd.prog 19 [NV L w ib, NV L v ia] n Q := by
  rw [← NV_self L w ib]
  rw [Int.add_comm] at hQ
  exact Mul_V hn (dyE w L) L (dyM w) v s ib ia hib hia m k hw hv (by omega) hL2 hL (by omega) (by rw [Int.mul_comm]; exact hs) hQ
/-- A right number, in units of a lesser power. -/
theorem right_V {x e L : Int} {k : Nat} (hM : dyM x = x) (h0 : x = 0 → e = 0) (ht : x ≠ 0 → tz x.natAbs = 0) (hL : L ≤ e) (hx : sz x k) {j : Nat} (hj : e - L ≤ 32 * j) : ∃ v, x = dyM v ∧ e = dyE v L ∧ sz v (k + j) ∧ (x = 0 ↔ v = 0) := by
  refine ⟨x * 2 ^ (e - L).toNat, by rw [dyM_mul, hM], ?_, ?_, ?_⟩
  · rw [dyE_mul]
    unfold dyE
    by_cases h : x = 0
    · rw [if_pos h, h0 h]
    · rw [if_neg h, ht h]; omega
  · have : shZ x (e - L) = x * 2 ^ (e - L).toNat := by unfold shZ; rw [if_pos (by omega)]
    rw [← this]
    exact shZ_sz rfl hx hj
  · have hp := two_pow_pos' (e - L).toNat
    constructor
    · intro h; rw [h]; simp
    · intro h
      rcases Int.mul_eq_zero.1 h with h | h
      · exact h
      · omega
end Go.Proofs.YtaankihkejodgaaDoor
