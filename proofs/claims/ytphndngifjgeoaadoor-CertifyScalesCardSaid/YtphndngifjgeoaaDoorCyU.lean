/- A row times a power of two keeps the rank, by value. -/
import Derived.Test.YtphndngifjgeoaaDoorCyT
import Derived.Test.YtphndngifjgeoaaDoorCyI
set_option linter.unusedVariables false
set_option linter.unusedSimpArgs false
set_option maxRecDepth 20000
set_option maxHeartbeats 4000000
namespace Go.Proofs.YtphndngifjgeoaaDoor
open Go.Proofs
theorem Tame_bad {n : Nat} (hn : 0 < n) (r c : Int) (i : Sid) (l : List Nat) (kk : Int) (h : mOk r c l = false) {Q : PV → Nat → List Nat → Prop} (hQ : Q (.bool false) n []) : PCall Tryd.prog 11 [Mx r c i l, .int .i64 kk] n Q := by
  refine of11 hn ?_
  simp (disch := omega) [c11]
  refine CallK.of (by simp) (MRight_call hn r c i l ?_)
  simpa (disch := omega) [h] using hQ
theorem len_scaG {k : Int} {c a : Nat} {l T : List Nat} {j : Nat} (h : scaG k c a l T j) : T.length = l.length := h.1
def scaI (M0 : List PV) (R C a : Nat) (kk : Int) (l : List Nat) (o : Sid) (n N : Nat) (k : Nat) (s : St) : Prop :=
  ∃ (j : Nat) (T : List Nat), j + k = C ∧ At s 87 [M0, [.int .i64 (R : Int), .int .i64 (C : Int), .sl o 1 (bts T)]] N [(1, .int .i64 (a : Int)), (2, .int .i64 kk), (3, .box 0 0), (7, .box 1 0), (8, .int .i64 (j : Int))] ∧ s.n0 = n ∧ scaG kk C a l T j
theorem Scales_law {n : Nat} (hn : 0 < n) (r c : Int) (i : Sid) (hi : i.f < n) (l : List Nat) (hl : l.length < 35184372088800) (hb : Bt l) (z1 z2 : Int) (hz1 : -9223372036854775808 ≤ z1 ∧ z1 < 9223372036854775808) (hz2 : -9223372036854775808 ≤ z2 ∧ z2 < 9223372036854775808) : PCall Tryd.prog 6 [Mx r c i l, .int .i64 z1, .int .i64 z2] n (fun v _ D => v = .bool true ∧ D = []) := by
  refine of6 hn ?_
  simp (disch := omega) [c6]
  cases hm : mOk r c l
  · refine CallK.of (by simp) (Tame_bad hn r c i l 100 hm ?_)
    simp (disch := omega) []
    refine CallK.of (by simp) (awake_call hn fun n' g => ?_)
    (simp (disch := omega) [g] <;> omega)
  · obtain ⟨m1, m2, m3, m4, m5⟩ := mOk_iff.1 hm
    obtain ⟨R, rfl⟩ : ∃ R : Nat, r = R := ⟨r.toNat, by omega⟩
    obtain ⟨C, rfl⟩ : ∃ C : Nat, c = C := ⟨c.toNat, by omega⟩
    obtain ⟨hlen, hl36, hR6, hC6⟩ := len36 hm
    refine CallK.of (by simp) (Tame_call hn R C i l 100 (by omega) hb (by omega) fun n1 g1 => ?_)
    rw [hm, Bool.true_and]
    cases ht : l.all (tameB 100)
    · simp (disch := omega) [g1]
      refine CallK.of (by simp) (awake_call (by omega) fun n' g => ?_)
      (simp (disch := omega) [g1, g] <;> omega)
    · by_cases hR : R = 0
      · subst hR
        simp (disch := omega) [g1]
        refine CallK.of (by simp) (awake_call (by omega) fun n' g => ?_)
        (simp (disch := omega) [g1, g] <;> omega)
      · have hchk : mChk (R : Int) (C : Int) l = 0 := by
          unfold mChk
          rw [if_pos hm, if_pos (List.all_eq_true.2 fun x hx => by
            have := List.all_eq_true.1 ht x hx
            unfold tameB at this
            simp only [Bool.and_eq_true] at this
            exact this.1)]
        obtain ⟨u, hu1, hu2⟩ : ∃ u : Nat, IntKind.u64.wrap z1 = (u : Int) ∧ u < 18446744073709551616 := ⟨(z1 % 18446744073709551616).toNat, by rw [wrap_u64_eq]; omega, by omega⟩
        obtain ⟨v, hv1, hv2⟩ : ∃ v : Nat, IntKind.u64.wrap z2 = (v : Int) ∧ v < 18446744073709551616 := ⟨(z2 % 18446744073709551616).toNat, by rw [wrap_u64_eq]; omega, by omega⟩
        obtain ⟨a, ha⟩ : ∃ a, a = u % R := ⟨_, rfl⟩
        obtain ⟨e, he⟩ : ∃ e, e = v % 201 := ⟨_, rfl⟩
        have haR : a < R := by rw [ha]; exact Nat.mod_lt _ (by omega)
        have he2 : e < 201 := by omega
        have f1 : binPV Tryd.prog .rem 50 (.int .u64 (u : Int)) (.int .u64 (R : Int)) = some (.int .u64 (a : Int)) := by
          rw [binPV_rem, if_neg (by omega), tmod_nat, ← ha]
        have f2 : binPV Tryd.prog .rem 50 (.int .u64 (v : Int)) (.int .u64 201) = some (.int .u64 (e : Int)) := by
          rw [binPV_rem, if_neg (by omega), show (201 : Int) = ((201 : Nat) : Int) from rfl, tmod_nat, ← he]
        have hRz : ((R : Int) == 0) = false := by simpa using hR
        clear ha he
        simp (disch := omega) [-binPV_rem, g1, hRz, hR, hu1, hv1, f1, f2]
        obtain ⟨kk, hkk⟩ : ∃ kk : Int, kk = (e : Int) - 100 := ⟨_, rfl⟩
        rw [← hkk]
        have hk : -100 ≤ kk ∧ kk ≤ 100 := by omega
        refine CallK.of (by simp) (Copy_call (by omega) R C i l (by omega) fun o n2 g2 d2 => ?_)
        simp (disch := omega) [g1, g2, d2]
        have hio : ¬ i.f = o.f := by omega
        refine GO_loopN (scaI [.int .i64 (R : Int), .int .i64 (C : Int), .sl i 1 (bts l)] R C a kk l o n n2) C ⟨0, l, by omega, by simp [At], by simp, rfl, hb, fun q => by rw [if_neg (by omega)]⟩ ?_
        rintro k s ⟨j, T, hj, ⟨e1, e2, e3, e4, e5⟩, hn0, hT⟩
        simp at e5
        obtain ⟨e5, e6, e7, e8, e9⟩ := e5
        by_cases hjC : j < C
        · have hq : a * C + j < l.length := by rw [hlen]; exact lt_mul_of haR hjC
          obtain ⟨x, hx⟩ : ∃ x, x = l[a * C + j] := ⟨_, rfl⟩
          have hxb : x < 18446744073709551616 := by rw [hx]; exact hb.get hq
          have hxt : tameB 100 x = true := by rw [hx]; exact List.all_eq_true.1 ht _ (List.getElem_mem hq)
          have hxd : l.getD (a * C + j) 0 = x := by rw [hx]; simp [List.getD_eq_getElem?_getD, List.getElem?_eq_getElem hq]
          obtain ⟨hTx, hT2⟩ := scaG_next hT hq (by rw [hxd]; exact (fin_sh hxb hxt hk).1)
          rw [hxd] at hTx hT2
          have hTl := len_scaG hT
          obtain ⟨p, hp⟩ : ∃ p, p = a * C := ⟨_, rfl⟩
          rw [← hp] at hq hTx hT2
          obtain ⟨q, hqq⟩ : ∃ q, q = p + j := ⟨_, rfl⟩
          rw [← hqq] at hq hTx hT2
          have hqT : q < T.length := by omega
          have hTg : T[q] = x := by
            have : T.getD q 0 = T[q] := by simp [List.getD_eq_getElem?_getD, List.getElem?_eq_getElem hqT]
            rw [← this]; exact hTx
          have hw1 : IntKind.i64.wrap ((a : Int) * (C : Int)) = (p : Int) := by
            rw [show (a : Int) * (C : Int) = (p : Int) by rw [hp]; simp]
            exact wrap_i64_is rfl (by omega)
          have hw2 : IntKind.i64.wrap ((p : Int) + (j : Int)) = (q : Int) := wrap_i64_is (by omega) (by omega)
          have hlq : (q : Int) < (T.length : Int) := by omega
          simp (disch := omega) [-wrap_i64_at, c6L0, e1, e2, e3, e4, e5, e6, e7, e8, e9, hn0, hjC, hw1, hw2, hqT, hlq, hTg]
          refine CallK.of (by simp) (ShiftF_call (by omega) x hxb kk hk hxt ?_)
          have hU1 := pvupd_btsV o q T (shB kk x)
          have hU2 := pvupd_bts_other (o := o) (i := i) hio 1 q 0 l [.int .u64 ((shB kk x : Nat) : Int)]
          have hw3 : IntKind.i64.wrap ((j : Int) + 1) = ((j + 1 : Nat) : Int) := wrap_i64_is (by omega) (by omega)
          simp (disch := omega) [-wrap_i64_at, e1, e2, e3, e4, e5, e6, e7, e8, e9, hn0, hjC, hw1, hw2, hw3, hqT, hlq, hU1, hU2]
          refine ⟨by omega, k - 1, by omega, j + 1, T.set q (shB kk x), by omega, ?_, by simp [hn0], hT2⟩
          simp [At, e1, e2, e3, e4, e5, e6, e7, e8, e9, hn0, hU1, hU2]
          omega
        · have hjc : j = C := by omega
          subst hjc
          simp (disch := omega) [c6L0, c6R0, e1, e2, e3, e4, e5, e6, e7, e8, e9, hn0]
          refine CallK.of (by simp) (Rank8_call (by omega) R j i l hb hchk fun n3 b3 g3 hr3 => ?_)
          simp (disch := omega) [e1, e2, e3, e4, e5, e6, e7, e8, e9, hn0, g3]
          refine CallK.of (by simp) (Rank8_call (by omega) R j o T hT.2.1 (scaG_chk hT hchk hb ht hk) fun n4 b4 g4 hr4 => ?_)
          have hbb : b4 = b3 := hr4.unique (scaG_rank hT hb hlen ht hk hr3)
          subst hbb
          simp (disch := omega) [e1, e2, e3, e4, e5, e6, e7, e8, e9, hn0, g3, g4]
          refine CallK.of (by simp) (awake_call (by omega) fun n' g => ?_)
          (simp (disch := omega) [e1, e2, e3, e4, e5, e6, e7, e8, e9, hn0, g3, g4, g] <;> omega)
end Go.Proofs.YtphndngifjgeoaaDoor
