/- The document's rounding, by value. -/
import Derived.Test.YtdaoblhmnafllaaDoorSfM
set_option linter.unusedVariables false
set_option linter.unusedSimpArgs false
set_option maxHeartbeats 2000000
set_option maxRecDepth 20000
namespace Go.Proofs.YtdaoblhmnafllaaDoor
open Go.Proofs

theorem RefSigned_call {n : Nat} (hn : 0 < n) (b : Nat) (hb : b < 18446744073709551616) (neg : Bool) {Q : PV → Nat → List Nat → Prop} (hQ : Q (.int .u64 (sB neg b : Nat)) n []) : PCall Tryd.prog 50 [.int .u64 b, .bool neg] n Q := by
  refine of50 hn ?_
  cases neg
  · simpa (disch := omega) [c50] using hQ
  · have he : sB true b = mB b := rfl
    rw [he] at hQ
    simp (disch := omega) [c50]
    refine CallK.of (by simp) (RefMinus_call hn b hb ?_)
    simpa (disch := omega) [] using hQ
theorem RefBits_call {n : Nat} (hn : 0 < n) (m r : Nat) (hm : m < 9007199254740992) (h : 4503599627370496 ≤ m ∨ r = 0) (hr : r < 1000000) {Q : PV → Nat → List Nat → Prop} (hQ : Q (.int .u64 (packR m r : Nat)) n []) : PCall Tryd.prog 53 [.int .u64 m, .int .i64 ((r : Int) - 1074)] n Q := by
  refine of53 hn ?_
  by_cases h1 : m < 4503599627370496
  · have h0 : r = 0 := by omega
    subst h0
    have hp : packR m 0 = m := by unfold packR; omega
    rw [hp] at hQ
    simpa (disch := omega) [c53, h1] using hQ
  · by_cases h2 : 2046 ≤ r
    · have hp : packR m r = 9218868437227405312 := by unfold packR; omega
      rw [hp] at hQ
      have hC : (2047 : Int) ≤ (r : Int) - 1074 + 1075 := by omega
      simpa (disch := omega) [c53, h1, hC] using hQ
    · have hp : packR m r = r * 4503599627370496 + m := by unfold packR; omega
      have hC : ¬ (2047 : Int) ≤ (r : Int) - 1074 + 1075 := by omega
      obtain ⟨p, hpp⟩ : ∃ p, p = r + 1 := ⟨_, rfl⟩
      obtain ⟨x, hx⟩ : ∃ x, x = p * 4503599627370496 := ⟨_, rfl⟩
      obtain ⟨y, hy⟩ : ∃ y, y = x + m := ⟨_, rfl⟩
      have hw : IntKind.u64.wrap ((r : Int) - 1074 + 1075) = (p : Int) := by rw [wrap_u64_at _ (by omega)]; omega
      have f1 : binPV Tryd.prog .mul 22 (.int .u64 (p : Int)) (.int .u64 4503599627370496) = some (.int .u64 (x : Int)) := by
        rw [binPV_mul]; congr 2; rw [wrap_u64_at _ (by omega)]; omega
      have f2 : binPV Tryd.prog .add 22 (.int .u64 (x : Int)) (.int .u64 (m : Int)) = some (.int .u64 (y : Int)) := by
        rw [binPV_add]; congr 2; rw [wrap_u64_at _ (by omega)]; omega
      have f3 : binPV Tryd.prog .sub 22 (.int .u64 (y : Int)) (.int .u64 4503599627370496) = some (.int .u64 (packR m r : Nat)) := by
        rw [binPV_sub]; congr 2; rw [wrap_u64_at _ (by omega)]; omega
      have f0 : binPV Tryd.prog .add 3 (.int .i64 ((r : Int) - 1074)) (.int .i64 1075) = some (.int .i64 ((r : Int) - 1074 + 1075)) := by
        rw [binPV_add]; congr 2; exact wrap_i64_is rfl (by omega)
      simpa (disch := omega) [-binPV_mul, -binPV_add, -binPV_sub, -wrap_u64_at, c53, h1, hC, hw, f0, f1, f2, f3] using hQ
theorem RefFlags_call {n : Nat} (hn : 0 < n) (b : Nat) (hb : b ≤ 9218868437227405312) (x : Bool) {Q : PV → Nat → List Nat → Prop} (hQ : Q (.int .u8 (flg b x)) n []) : PCall Tryd.prog 54 [.int .u64 b, .bool x] n Q := by
  refine of54 hn ?_
  have hk := kindB_sB false hb
  rw [sB_false] at hk
  simp (disch := omega) [c54]
  refine CallK.of (by simp) (RefKindB_call hn b (by omega) ?_)
  unfold flg at hQ
  by_cases h1 : b = 9218868437227405312
  · rw [if_pos h1] at hk hQ
    rw [hk]
    simpa (disch := omega) [] using hQ
  · rw [if_neg h1] at hk hQ
    cases x
    · have hne : (kindB b == 3) = false := by
        have : ¬ kindB b = 3 := by rw [hk]; split; omega; split <;> omega
        simpa using this
      simp (disch := omega) [hne]
      refine CallK.of (by simp) (RefKindB_call hn b (by omega) ?_)
      by_cases h2 : 4503599627370496 ≤ b
      · rw [if_pos h2] at hk
        rw [if_neg (by simp), if_pos h2] at hQ
        rw [hk]
        simpa (disch := omega) [] using hQ
      · rw [if_neg h2] at hk
        rw [if_neg (by simp), if_neg h2] at hQ
        have hne2 : (kindB b == 2) = false := by
          have : ¬ kindB b = 2 := by rw [hk]; split <;> omega
          simpa using this
        simpa (disch := omega) [hne2] using hQ
    · have hne : (kindB b == 3) = false := by
        have : ¬ kindB b = 3 := by rw [hk]; split; omega; split <;> omega
        simpa using this
      rw [if_pos rfl] at hQ
      simpa (disch := omega) [hne] using hQ
def smI (neg : Bool) (i : Sid) (l : List Nat) (n : Nat) (k : Nat) (s : St) : Prop :=
  At s 23 [[.bool neg, .sl i 1 (u32s l)]] n [(1, .box 0 0), (3, .int .u64 (val (l.drop k) : Nat)), (4, .int .i64 ((k : Int) - 1))]
theorem RefSmall_call {n : Nat} (hn : 0 < n) (neg : Bool) (i : Sid) (l : List Nat) (hl : l.length < 35184372088800) (ll : Lim l) (hv : val l < 18446744073709551616) {Q : PV → Nat → List Nat → Prop} (hQ : Q (.int .u64 (val l : Nat)) n []) : PCall Tryd.prog 70 [W neg i l] n Q := by
  refine of70 hn ?_
  have hw0 : IntKind.i64.wrap ((l.length : Int) - 1) = (l.length : Int) - 1 := wrap_i64_is rfl (by omega)
  simp (disch := omega) [c70, hw0]
  refine GO_loopN (fun k s => k ≤ l.length ∧ smI neg i l n k s) l.length ⟨by omega, by simp [smI, At, List.drop_length]⟩ ?_
  rintro k s ⟨hk, ⟨e1, e2, e3, e4, e5⟩⟩
  simp at e5
  obtain ⟨e5, e6, e7⟩ := e5
  rcases Nat.eq_zero_or_pos k with h0 | h0
  · subst h0
    rw [List.drop_zero] at e6
    have : ¬ (0 : Int) ≤ ((0 : Nat) : Int) - 1 := by omega
    simp at e7
    simpa (disch := omega) [c70L0, c70R0, e1, e2, e3, e4, e5, e6, e7] using hQ
  · obtain ⟨j, rfl⟩ : ∃ j, k = j + 1 := ⟨k - 1, by omega⟩
    have hj : j < l.length := by omega
    have hx := ll.get hj
    have hd : val (l.drop j) = l[j] + 4294967296 * val (l.drop (j + 1)) := by rw [List.drop_eq_getElem_cons hj, val_cons]
    have hle : val (l.drop j) ≤ val l := by
      have := val_split l j
      have h2 : val (l.drop j) ≤ 4294967296 ^ j * val (l.drop j) := Nat.le_mul_of_pos_left _ (Nat.pos_of_ne_zero (by simp))
      omega
    obtain ⟨a, ha⟩ : ∃ a, a = val (l.drop (j + 1)) := ⟨_, rfl⟩
    obtain ⟨x, hxx⟩ : ∃ x, x = l[j] := ⟨_, rfl⟩
    obtain ⟨c, hc⟩ : ∃ c, c = val (l.drop j) := ⟨_, rfl⟩
    obtain ⟨a32, ha32⟩ : ∃ a32, a32 = a * 4294967296 := ⟨_, rfl⟩
    rw [← ha, ← hxx, ← hc] at hd
    rw [← hc] at hle
    rw [← ha] at e6
    rw [← hxx] at hx
    have e7' : s.slots 4 = .int .i64 (j : Int) := by rw [e7]; congr 1; omega
    have f1 : binPV Tryd.prog .mul 22 (.int .u64 (a : Int)) (.int .u64 4294967296) = some (.int .u64 (a32 : Int)) := by
      rw [binPV_mul]; congr 2; rw [wrap_u64_at _ (by omega)]; omega
    have f2 : binPV Tryd.prog .add 22 (.int .u64 (a32 : Int)) (.int .u64 (x : Int)) = some (.int .u64 (c : Int)) := by
      rw [binPV_add]; congr 2; rw [wrap_u64_at _ (by omega)]; omega
    have hw : IntKind.i64.wrap ((j : Int) - 1) = (j : Int) - 1 := wrap_i64_is rfl (by omega)
    simp (disch := omega) [-binPV_mul, -binPV_add, -wrap_i64_at, c70L0, e1, e2, e3, e4, e5, e6, e7', hj, ← hxx, f1, f2, hw]
    refine ⟨j, by omega, by omega, ?_⟩
    simp [smI, At, e1, e2, e3, e4, e5, e6, e7', ← hc]
theorem RefAbs_call {n : Nat} (hn : 0 < n) (x E X : Int) (i : Sid) (hx : sz x 512) (hX : X = (x.natAbs : Int)) {Q : PV → Nat → List Nat → Prop}
    (hQ : ∀ i', i' = ⟨0, 0, 0⟩ ∨ i' = i → Q (D (decide (X < 0)) i' (dig X.natAbs) E) n []) : PCall Tryd.prog 52 [D (decide (x < 0)) i (dig x.natAbs) E] n Q := by
  refine of52 hn ?_
  have hl := hx.len
  simp (disch := omega) [c52]
  refine CallK.of (by simp) (Made_call' hn false i (dig x.natAbs) (by omega) (Lim.dig _) X (by rw [val_dig, hX]; rfl) (fun _ => by rw [hX]; simp) fun i' hi' => ?_)
  have := hQ i' hi'
  simpa (disch := omega) [] using this
end Go.Proofs.YtdaoblhmnafllaaDoor
