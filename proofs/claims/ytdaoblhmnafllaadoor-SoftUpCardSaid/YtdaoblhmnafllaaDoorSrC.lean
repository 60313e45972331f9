/- The document's rounding, by value: the nearest multiple, the number. -/
import Derived.Test.YtdaoblhmnafllaaDoorSrB
set_option linter.unusedVariables false
set_option linter.unusedSimpArgs false
set_option maxHeartbeats 2000000
set_option maxRecDepth 20000
namespace Go.Proofs.YtdaoblhmnafllaaDoor
open Go.Proofs

theorem pow_lim (t k : Nat) (h : t < 32 * k) : 2 ^ t < 4294967296 ^ k := by
  have := Nat.pow_lt_pow_right (a := 2) (by omega) h
  rwa [Nat.pow_mul] at this
theorem NV_of {x E : Int} {i : Sid} (hM : dyM x = x) (ht : x ≠ 0 → tz x.natAbs = 0) (h0 : x ≠ 0) : D (decide (x < 0)) i (dig x.natAbs) E = NV E x i := by
  have : dyE x E = E := by unfold dyE; rw [if_neg h0, ht h0]; simp
  simp only [NV, this, hM]
theorem OfNV_call {n : Nat} (hn : 0 < n) (x e : Int) (i : Sid) (hi : i.f < n) (hx : sz x 200) (he : -20000 ≤ e ∧ e ≤ 20000) {Q : PV → Nat → List Nat → Prop}
    (hQ : ∀ (i' : Sid) (n' : Nat), n ≤ n' → i'.f < n' → Q (NV e x i') n' []) : PCall Tryd.prog 42 [W (decide (x < 0)) i (dig x.natAbs), .int .i64 e] n Q := by
  refine RefOfD2_call hn x e i hi (hx.mono (by omega)) (wrap_i64_is rfl (by omega)) fun i' n' g b => ?_
  have h := hQ i' n' g b
  have hE : (if x = 0 then 0 else IntKind.i64.wrap (e + tz x.natAbs)) = dyE x e := by
    unfold dyE
    by_cases h0 : x = 0
    · rw [if_pos h0, if_pos h0]
    · rw [if_neg h0, if_neg h0]
      have := tz_sz h0 hx
      exact wrap_i64_is rfl (by omega)
  rw [hE]
  exact h
theorem ScaleNV_call {n : Nat} (hn : 0 < n) (v L : Int) {k : Nat} (ia : Sid) (hia : ia.f < n) (hv : sz v k) (hk : k ≤ 255) (hL : -16384 ≤ L ∧ L + 32 * k ≤ 16384) {Q : PV → Nat → List Nat → Prop}
    (hQ : ∀ (i' : Sid) (n' : Nat), n ≤ n' → i'.f < n' → Q (NV L (v * 2) i') n' []) : PCall Tryd.prog 72 [NV L v ia, .int .i64 1] n Q := by
  have hr := dyE_range hv hL
  refine RefScaleD2_call hn (dyM v) (dyE v L) 1 ia hia ((sz_dyM hv).mono (by omega)) hr (by omega) fun i' n' g b => ?_
  have h := hQ i' n' g b
  have e2 : NV L (v * 2) i' = NV (dyE v L + 1) (dyM v) i' := by
    have e1 : v * 2 = v * 2 ^ 1 := by simp
    have e3 : dyM (v * 2) = dyM v := by rw [e1, dyM_mul]
    have e4 : dyE (v * 2) L = dyE v (L + 1) := by rw [e1, dyE_mul]; rfl
    by_cases h0 : v = 0
    · subst h0
      simp [NV, dyM, dyE]
    · have e5 : dyE v (L + 1) = dyE v L + 1 := by unfold dyE; rw [if_neg h0, if_neg h0]; omega
      have e6 : NV (dyE v (L + 1)) (dyM v) i' = NV (L + 1) v i' := NV_self (L + 1) v i'
      rw [← e5, e6]
      simp only [NV, e3, e4]
  have hE : (if dyM v = 0 then 0 else IntKind.i64.wrap (dyE v L + 1 + tz (dyM v).natAbs)) = dyE (dyM v) (dyE v L + 1) := by
    unfold dyE
    by_cases h0 : dyM v = 0
    · rw [if_pos h0, if_pos h0]
    · rw [if_neg h0, if_neg h0]
      have := tz_sz h0 (sz_dyM hv)
      have hr2 := hr
      unfold dyE at hr2
      exact wrap_i64_is rfl (by omega)
  rw [hE]
  rw [e2] at h
  exact h
/-- How many of 2 to the e, and whether just that. -/
theorem RefNearest_call {n : Nat} (hn : 0 < n) (X : Int) (M : Nat) (hXM : X = M) (E e : Int) (i : Sid) (hi : i.f < n) (hM0 : 0 < M) (hM : dyM X = X) (ht : tz M = 0) (hx : sz X 60) (hE : -4000 ≤ E ∧ E ≤ 4000) (he : -1074 ≤ e ∧ e ≤ 1000) (hup : e - E ≤ 1940 ∧ E - e ≤ 3000) (hsm : rnd M (e - E) ≤ 9007199254740992) {Q : PV → Nat → List Nat → Prop}
    (hQ : ∀ n', n ≤ n' → Q (.tup [.int .u64 (rnd M (e - E) : Nat), .bool (decide (e ≤ E ∨ M % 2 ^ (e - E).toNat = 0))]) n' []) : PCall Tryd.prog 51 [D (decide (X < 0)) i (dig X.natAbs) E, .int .i64 e] n Q := by
  refine of51 hn ?_
  obtain ⟨m, hm⟩ : ∃ m : Int, m = E - e := ⟨_, rfl⟩
  have hw : IntKind.i64.wrap (E - e) = m := wrap_i64_is hm.symm (by omega)
  have hl := hx.len
  have hXa : X.natAbs = M := by omega
  obtain ⟨z, hz⟩ : ∃ z : Int, z = shZ X m := ⟨_, rfl⟩
  by_cases hc : e ≤ E
  · have hza : z.natAbs = rnd M (e - E) := by
      rw [hz, shZ_abs, if_pos (by omega), hXa]
      unfold rnd; rw [if_pos (by omega)]; congr 2; omega
    rw [← hza] at hsm hQ
    have hzs : sz z 2 := by unfold sz; omega
    have hzl := hzs.len
    simp (disch := omega) [-wrap_i64_at, c51, hc, hw]
    refine CallK.of (by simp) (RefShift2_call hn X i hi (hx.mono (by omega)) m (by omega) z hz.symm fun i1 n1 g1 b1 => ?_)
    simp (disch := omega) [-wrap_i64_at, g1]
    refine CallK.of (by simp) (RefSmall_call (by omega) _ i1 (dig z.natAbs) (by omega) (Lim.dig _) (by rw [val_dig]; omega) ?_)
    rw [val_dig]
    have := hQ n1 (by omega)
    simp only [hc, true_or, decide_true] at this
    simpa (disch := omega) [] using ⟨by omega, this⟩
  · obtain ⟨t, hte⟩ : ∃ t : Nat, t = (e - E).toNat := ⟨_, rfl⟩
    have hP : 0 < 2 ^ t := Nat.pos_of_ne_zero (by simp)
    have hza : z.natAbs = M / 2 ^ t := by rw [hz, shZ_abs, if_neg (by omega), show (-m).toNat = t by omega, hXa]
    have hz0 : 0 ≤ z := by rw [hz]; exact shZ_nonneg (by omega)
    obtain ⟨r, hr⟩ : ∃ r : Nat, r = M % 2 ^ t := ⟨_, rfl⟩
    have hMqr : M = z.natAbs * 2 ^ t + r := by rw [hza, hr, Nat.mul_comm]; exact (Nat.div_add_mod M (2 ^ t)).symm
    have hrt : r < 2 ^ t := by rw [hr]; exact Nat.mod_lt _ hP
    have hrq : rnd M (e - E) = rq M t := by unfold rnd; rw [if_neg (by omega), hte]
    have hrqq : rq M t = z.natAbs + (if 2 ^ t < 2 * r ∨ (2 ^ t = 2 * r ∧ z.natAbs % 2 = 1) then 1 else 0) := by unfold rq; rw [← hza, ← hr]
    rw [hrq] at hsm hQ
    have hqle : z.natAbs ≤ rq M t := by rw [hrqq]; omega
    have hzs : sz z 2 := by unfold sz; omega
    have hzl := hzs.len
    obtain ⟨T, hT⟩ : ∃ T : Int, T = ((2 ^ t : Nat) : Int) := ⟨_, rfl⟩
    have hTs : sz T 62 := by
      unfold sz; rw [hT, Int.natAbs_natCast]
      exact pow_lim t 62 (by omega)
    have hXs : sz X 62 := hx.mono (by omega)
    obtain ⟨y, hy⟩ : ∃ y : Int, y = z * 2 ^ t := ⟨_, rfl⟩
    have hya : y = ((z.natAbs * 2 ^ t : Nat) : Int) := by rw [hy]; simp; congr 1; omega
    have hys : sz y 62 := by
      unfold sz at hXs ⊢
      have : y.natAbs = z.natAbs * 2 ^ t := by rw [hya, Int.natAbs_natCast]
      omega
    obtain ⟨d, hd⟩ : ∃ d : Int, d = X - y := ⟨_, rfl⟩
    have hdr : d = (r : Int) := by rw [hd, hXM, hya]; omega
    have hds : sz d 62 := by unfold sz at hXs ⊢; omega
    have hd2 : sz (d * 2) 63 := by
      unfold sz at hds ⊢; rw [Int.natAbs_mul, Nat.pow_succ]; simp; omega
    have hNM := NV_of (i := i) (E := E) hM (fun _ => by rw [hXa]; exact ht) (by omega)
    have hNq : ∀ i', NV e z i' = NV E y i' := by
      intro i'
      have h1 : dyM (z * 2 ^ t) = dyM z := dyM_mul _ _
      have h2 : dyE (z * 2 ^ t) E = dyE z (E + t) := dyE_mul _ _ _
      rw [show E + (t : Int) = e by omega] at h2
      rw [hy]
      simp only [NV, h1, h2]
    have hN1 : ∀ i', NV e 1 i' = NV E T i' := by
      intro i'
      have h0 : T = 1 * 2 ^ t := by rw [hT]; simp
      have h1 : dyM ((1 : Int) * 2 ^ t) = dyM 1 := dyM_mul _ _
      have h2 : dyE ((1 : Int) * 2 ^ t) E = dyE 1 (E + t) := dyE_mul _ _ _
      rw [show E + (t : Int) = e by omega] at h2
      rw [h0]
      simp only [NV, h1, h2]
    have hdl := (sz_dyM hds).len
    have subC : ∀ (i2 : Sid) (n2 : Nat), n ≤ n2 → i2.f < n2 → ∀ {Q' : PV → Nat → List Nat → Prop}, (∀ (i' : Sid) (n' : Nat), n2 ≤ n' → i'.f < n' → Q' (NV E d i') n' []) → PCall Tryd.prog 56 [D (decide (X < 0)) i (dig X.natAbs) E, NV e z i2] n2 Q' := by
      intro i2 n2 h1 h2 Q' hq
      rw [hNM, hNq]
      rw [hd] at hq
      exact SubNV_call (by omega) i i2 (by omega) h2 hXs hys (by omega) (by omega) hq
    have cmpC : ∀ (i2 i3 : Sid) (n2 : Nat), n ≤ n2 → i2.f < n2 → i3.f < n2 → ∀ {Q' : PV → Nat → List Nat → Prop}, (∀ (n' : Nat), n2 ≤ n' → Q' (.int .i64 (cmpZ (d * 2 - T))) n' []) → PCall Tryd.prog 25 [NV E (d * 2) i2, NV e 1 i3] n2 Q' := by
      intro i2 i3 n2 h1 h2 h3 Q' hq
      rw [hN1]
      exact CompareNV_call (by omega) i2 i3 h2 h3 hd2 (hTs.mono (by omega)) (by omega) (by omega) hq
    simp (disch := omega) [-wrap_i64_at, c51, hc, hw]
    refine CallK.of (by simp) (RefShift2_call hn X i hi (hx.mono (by omega)) m (by omega) z hz.symm fun i1 n1 g1 b1 => ?_)
    simp (disch := omega) [-wrap_i64_at, g1]
    refine CallK.of (by simp) (OfNV_call (by omega) z e i1 b1 (hzs.mono (by omega)) (by omega) fun i2 n2 g2 b2 => ?_)
    simp (disch := omega) [-wrap_i64_at, g1, g2]
    refine CallK.of (by simp) (subC i2 n2 (by omega) b2 fun i3 n3 g3 b3 => ?_)
    simp (disch := omega) [-wrap_i64_at, g1, g2, g3]
    refine CallK.of (by simp) (ScaleNV_call (by omega) d E i3 b3 hds (by omega) (by omega) fun i4 n4 g4 b4 => ?_)
    simp (disch := omega) [-wrap_i64_at, g1, g2, g3, g4]
    refine CallK.of (by simp) (RefOf_call (by omega) 1 (by omega) (by omega) fun i5 n5 g5 b5 => ?_)
    simp (disch := omega) [-wrap_i64_at, g1, g2, g3, g4, g5]
    refine CallK.of (by simp) (OfNV_call (by omega) 1 e i5 (newSid_lt b5 (by omega)) ((show sz 1 1 by unfold sz; decide).mono (by omega)) (by omega) fun i6 n6 g6 b6 => ?_)
    simp (disch := omega) [-wrap_i64_at, g1, g2, g3, g4, g5, g6]
    refine CallK.of (by simp) (cmpC i4 i6 n6 (by omega) (by omega) b6 fun n7 g7 => ?_)
    simp (disch := omega) [-wrap_i64_at, g1, g2, g3, g4, g5, g6, g7]
    refine CallK.of (by simp) (RefSmall_call (by omega) _ i1 (dig z.natAbs) (by omega) (Lim.dig _) (by rw [val_dig]; omega) ?_)
    rw [val_dig]
    obtain ⟨a, ha⟩ : ∃ a, a = z.natAbs := ⟨_, rfl⟩
    rw [← ha] at hrqq hqle ⊢
    obtain ⟨cz, hcz⟩ : ∃ cz, cz = cmpZ (d * 2 - T) := ⟨_, rfl⟩
    rw [← hcz]
    have hcc := cmpZ_cases (d * 2 - T)
    rw [← hcz] at hcc
    have hex : decide (e ≤ E ∨ M % 2 ^ (e - E).toNat = 0) = decide ((dig (dyM d).natAbs).length = 0) := by
      rw [← hte, ← hr, decide_eq_decide]
      by_cases h0 : r = 0
      · have hd0 : d = 0 := by omega
        rw [hd0]
        constructor
        · intro _; rw [show dyM 0 = 0 from rfl]; show (dig 0).length = 0; rw [dig_zero]; rfl
        · intro _; right; exact h0
      · have hd0 : d ≠ 0 := by omega
        have := (dig_ne (dyM_back hd0).1).1
        constructor
        · rintro (h | h)
          · omega
          · omega
        · intro h; omega
    have hQ := hQ n7 (by omega)
    rw [hex] at hQ
    obtain ⟨w, hwl⟩ : ∃ w, w = (dig (dyM d).natAbs).length := ⟨_, rfl⟩
    rw [← hwl] at hQ hdl
    have f2 : binPV Tryd.prog .rem 22 (.int .u64 (a : Int)) (.int .u64 2) = some (.int .u64 ((a % 2 : Nat) : Int)) := by
      rw [binPV_rem, if_neg (by omega), show (2 : Int) = ((2 : Nat) : Int) from rfl, tmod_nat]
    obtain ⟨o, ho⟩ : ∃ o, o = a % 2 := ⟨_, rfl⟩
    rw [← ho] at f2 hrqq
    have hT2 : T = ((2 ^ t : Nat) : Int) := hT
    have hup : IntKind.u64.wrap ((a : Int) + 1) = ((a + 1 : Nat) : Int) := by rw [wrap_u64_at _ (by omega)]; omega
    obtain ⟨a1, ha1⟩ : ∃ a1, a1 = a + 1 := ⟨_, rfl⟩
    rw [← ha1] at hup
    have hnn : n ≤ n7 := by omega
    rcases hcc with ⟨h1, h2⟩ | ⟨h1, h2⟩ | ⟨h1, h2⟩
    · rw [if_neg (by omega)] at hrqq
      rw [hrqq] at hQ
      rw [h2]
      simpa (disch := omega) [← hwl, g1, g2, g3, g4, g5, g6, g7] using ⟨hnn, hQ⟩
    · rw [h2]
      by_cases ho1 : o = 1
      · rw [if_pos (by omega)] at hrqq
        rw [hrqq, ← ha1] at hQ
        simpa (disch := omega) [-binPV_rem, -wrap_u64_at, ← hwl, f2, ho1, hup, g1, g2, g3, g4, g5, g6, g7] using ⟨hnn, hQ⟩
      · rw [if_neg (by omega)] at hrqq
        rw [hrqq] at hQ
        have ho0 : o = 0 := by omega
        simpa (disch := omega) [-binPV_rem, -wrap_u64_at, ← hwl, f2, ho0, hup, g1, g2, g3, g4, g5, g6, g7] using ⟨hnn, hQ⟩
    · rw [if_pos (by omega)] at hrqq
      rw [hrqq, ← ha1] at hQ
      rw [h2]
      simpa (disch := omega) [-wrap_u64_at, ← hwl, hup, g1, g2, g3, g4, g5, g6, g7] using ⟨hnn, hQ⟩
theorem pack_53 (r : Nat) : packR 4503599627370496 (r + 1) = packR 9007199254740992 r := by unfold packR; omega
theorem RefRound_call {n : Nat} (hn : 0 < n) (neg : Bool) (i : Sid) (hi : i.f < n) (l : List Nat) (E : Int) (hl : l.length ≤ 60) (ll : Lim l) (hr : rightD neg l E = true) {Q : PV → Nat → List Nat → Prop}
    (h0 : l = [] → ∀ n', n ≤ n' → Q (.tup [.int .u64 0, .int .u8 0]) n' [])
    (hQ : l ≠ [] → ∀ n', n ≤ n' → Q (.tup [.int .u64 (sB neg (spB (val l) E (lenW l)) : Nat), .int .u8 (flg (spB (val l) E (lenW l)) (spX (val l) E (lenW l)))]) n' []) : PCall Tryd.prog 24 [D neg i l E] n Q := by
  refine of24 hn ?_
  by_cases hnil : l = []
  · subst hnil
    have := h0 rfl n (by omega)
    simpa (disch := omega) [c24] using this
  · have hQ := hQ hnil
    obtain ⟨x, rfl, rfl, hx, hE1, hE2, hM, hz, hodd⟩ := rightD_Z hr ll
    have hx0 : x ≠ 0 := by intro h; subst h; exact hnil dig_zero
    have hodd := hodd hx0
    have hbits := lenZ_bits hx0
    have htop := topD_ne (e := E) hx0
    have hv := val_lt (Lim.dig x.natAbs)
    rw [val_dig] at hv hQ
    have hs60 : x.natAbs < 4294967296 ^ 60 := Nat.lt_of_lt_of_le hv (Nat.pow_le_pow_right (by omega) hl)
    have hL60 := lenW_small (x := x) (k := 60) hs60
    obtain ⟨L, hL⟩ : ∃ L, L = lenW (dig x.natAbs) := ⟨_, rfl⟩
    rw [← hL] at hbits htop hQ hL60
    obtain ⟨M, hMe⟩ : ∃ M, M = x.natAbs := ⟨_, rfl⟩
    have hb : bitsL M L := by rw [hMe]; exact hbits
    obtain ⟨X, hX⟩ : ∃ X : Int, X = (x.natAbs : Int) := ⟨_, rfl⟩
    have hXM : X = (M : Int) := by rw [hX, hMe]
    have hXd : dyM X = X := by
      rcases (show X = x ∨ X = -x by omega) with h | h
      · rw [h]; exact hM
      · rw [h, dyM_neg, hM]
    have hXs : sz X 60 := by unfold sz; rw [hX, Int.natAbs_natCast]; exact hs60
    have hL1 : 0 < L := by
      rcases Nat.eq_zero_or_pos L with h | h
      · rw [h] at hbits; simp at hbits; omega
      · exact h
    have hlen : 0 < (dig x.natAbs).length := List.length_pos_iff.2 hnil
    rw [← hMe] at hQ hodd
    simp (disch := omega) [c24, hnil]
    refine CallK.of (by simp) (RefTopD_call hn _ i _ E (by omega) (Lim.dig _) (by omega) ?_)
    rw [htop]
    by_cases hlo : (L : Int) + E < -1080
    · obtain ⟨k1, k2⟩ := far_low hb hlo
      rw [k1, k2] at hQ
      simp (disch := omega) [hlo]
      refine CallK.of (by simp) (RefSigned_call hn 0 (by omega) _ ?_)
      have := hQ n (by omega)
      rw [show flg 0 false = 3 by decide] at this
      simpa (disch := omega) [] using this
    · simp (disch := omega) [hlo]
      refine CallK.of (by simp) (RefTopD_call hn _ i _ E (by omega) (Lim.dig _) (by omega) ?_)
      rw [htop]
      by_cases hhi : 1030 < (L : Int) + E
      · have k1 := far_high (M := M) hhi
        rw [k1] at hQ
        simp (disch := omega) [hhi]
        refine CallK.of (by simp) (RefSigned_call hn 9218868437227405312 (by omega) _ ?_)
        have := hQ n (by omega)
        have hf : ∀ b, flg 9218868437227405312 b = 5 := fun b => by unfold flg; rw [if_pos rfl]
        rw [hf] at this
        simpa (disch := omega) [] using this
      · simp (disch := omega) [hhi]
        refine CallK.of (by simp) (RefTopD_call hn _ i _ E (by omega) (Lim.dig _) (by omega) ?_)
        rw [htop]
        obtain ⟨p, hp⟩ : ∃ p, p = pexp L E := ⟨_, rfl⟩
        obtain ⟨hr1, hr2⟩ := rnd_range (E := E) hb
        have hp1 : p = L + E - 53 ∧ -1074 ≤ p ∨ p = -1074 ∧ (L : Int) + E - 53 ≤ -1074 := by
          rw [hp]; unfold pexp; split
          · right; exact ⟨rfl, by omega⟩
          · left; omega
        have hmax : maxV (.int .i64 ((L : Int) + E - 53)) (.int .i64 (-1074)) = some (.int .i64 p) := by
          simp only [maxV]; congr 2; split <;> omega
        rw [← hp] at hr1 hr2
        have hpk : packR (rnd M (p - E)) (p + 1074).toNat = spB M E L := by unfold spB; rw [← hp]
        have hpx : decide (p ≤ E ∨ M % 2 ^ (p - E).toNat = 0) = spX M E L := by unfold spX; rw [← hp]
        have hle := spB_le M E L
        obtain ⟨b, hbb⟩ : ∃ b, b = spB M E L := ⟨_, rfl⟩
        obtain ⟨ex, hex⟩ : ∃ ex, ex = spX M E L := ⟨_, rfl⟩
        rw [← hbb] at hpk hle hQ
        rw [← hex] at hpx hQ
        simp (disch := omega) [hmax]
        refine CallK.of (by simp) (RefAbs_call hn x E X i hx hX fun i1 hi1 => ?_)
        simp (disch := omega) []
        refine CallK.of (by simp) (RefNearest_call hn X M hXM E p i1 (by rcases hi1 with h | h; rw [h]; exact hn; rw [h]; exact hi) (by omega) hXd (by exact hodd) hXs (by omega) (by omega) (by omega) hr1 fun n1 g1 => ?_)
        rw [hpx]
        obtain ⟨m, hm⟩ : ∃ m, m = rnd M (p - E) := ⟨_, rfl⟩
        rw [← hm] at hr1 hr2 hpk ⊢
        obtain ⟨r, hrr⟩ : ∃ r : Nat, r = (p + 1074).toNat := ⟨_, rfl⟩
        rw [← hrr] at hpk
        have hpr : p = (r : Int) - 1074 := by omega
        have fin := hQ n1 (by omega)
        by_cases hm53 : m = 9007199254740992
        · have hpk2 : packR 4503599627370496 (r + 1) = b := by rw [← hpk, hm53]; exact pack_53 r
          have hw : IntKind.i64.wrap (p + 1) = ((r + 1 : Nat) : Int) - 1074 := wrap_i64_is (by omega) (by omega)
          simp (disch := omega) [-wrap_i64_at, hm53, hw, g1]
          refine CallK.of (by simp) (RefBits_call (by omega) 4503599627370496 (r + 1) (by omega) (.inl (by omega)) (by omega) ?_)
          rw [hpk2]
          simp (disch := omega) [g1]
          refine CallK.of (by simp) (RefSigned_call (by omega) b (by omega) _ ?_)
          simp (disch := omega) [g1]
          refine CallK.of (by simp) (RefFlags_call (by omega) b hle ex ?_)
          simpa (disch := omega) [] using ⟨by omega, fin⟩
        · simp (disch := omega) [hm53, g1]
          rw [hpr]
          refine CallK.of (by simp) (RefBits_call (by omega) m r (by omega) (by omega) (by omega) ?_)
          rw [hpk]
          simp (disch := omega) [g1]
          refine CallK.of (by simp) (RefSigned_call (by omega) b (by omega) _ ?_)
          simp (disch := omega) [g1]
          refine CallK.of (by simp) (RefFlags_call (by omega) b hle ex ?_)
          simpa (disch := omega) [] using ⟨by omega, fin⟩
end Go.Proofs.YtdaoblhmnafllaaDoor
