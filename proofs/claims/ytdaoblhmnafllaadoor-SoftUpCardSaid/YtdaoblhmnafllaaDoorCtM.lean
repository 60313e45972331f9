/- What the functions of layer 1 do, by value: a number's value, if it is small. -/
import Derived.Test.YtdaoblhmnafllaaDoorCtL
import Derived.Test.YtdaoblhmnafllaaDoorCtJ
set_option linter.unusedVariables false
set_option linter.unusedSimpArgs false
namespace Go.Proofs.YtdaoblhmnafllaaDoor
open Go.Proofs

theorem or_nat {a b k : Nat} (ha : a < 2 ^ k) (hb : 2 ^ k * b + a < 18446744073709551616) : (BitVec.ofInt 64 ((a : Nat) : Int) ||| BitVec.ofInt 64 ((2 ^ k * b : Nat) : Int)).toNat = 2 ^ k * b + a := by
  rw [BitVec.ofInt_natCast, BitVec.ofInt_natCast, BitVec.toNat_or, BitVec.toNat_ofNat, BitVec.toNat_ofNat, Nat.mod_eq_of_lt (by omega), Nat.mod_eq_of_lt (by omega), Nat.or_comm, Nat.two_pow_add_eq_or_of_lt ha]
theorem binPV_or_low {P : Program} {t : TypeId} {a b k c d : Nat} (ha : a < 2 ^ k) (hb : b = 2 ^ k * d) (hc : c = b + a) (hl : c < 18446744073709551616) : binPV P .or t (.int .u64 (a : Int)) (.int .u64 (b : Int)) = some (.int .u64 (c : Int)) := by
  subst hb
  rw [binPV_or, bits_u64, or_nat ha (by omega), ← hc, wrap_u64_nat _ hl]
theorem binPV_or_high {P : Program} {t : TypeId} {a b k c d : Nat} (ha : a < 2 ^ k) (hb : b = 2 ^ k * d) (hc : c = b + a) (hl : c < 18446744073709551616) : binPV P .or t (.int .u64 (b : Int)) (.int .u64 (a : Int)) = some (.int .u64 (c : Int)) := by
  have := binPV_or_low (P := P) (t := t) ha hb hc hl
  rw [binPV_or] at this ⊢
  rw [BitVec.or_comm]; exact this

/-- Why a number's value can't be told. -/
def smallE (neg : Bool) (l : List Nat) : Int := if rightW neg l then (if numW neg l < -9223372036854775808 ∨ 9223372036854775807 < numW neg l then 2 else 0) else 1
def smallN (neg : Bool) (l : List Nat) : Int := if smallE neg l = 0 then numW neg l else 0
def smallI (neg : Bool) (i : Sid) (l : List Nat) (n : Nat) (k : Nat) (s : St) : Prop :=
  ∃ (j v : Nat), j + k = l.length ∧ v = val (l.take j) ∧ At s 48 [[.bool neg, .sl i 1 (u32s l)]] n [(1, .box 0 0), (4, .int .u64 v), (15, .sl i 1 (u32s l)), (16, .int .i64 l.length), (17, .int .i64 j)]
theorem Small_call {n : Nat} (hn : 0 < n) (neg : Bool) (i : Sid) (l : List Nat) (hl : l.length < 35184372088800) (ll : Lim l) {Q : PV → Nat → List Nat → Prop}
    (hQ : Q (.tup [.int .i64 (smallN neg l), .int .i64 (smallE neg l)]) n []) : PCall Tryd.prog 48 [W neg i l] n Q := by
  refine of48 hn ?_
  simp (disch := omega) [c48]
  refine CallK.of (by simp) (Check_call hn neg i l (by omega) ?_)
  by_cases h1 : rightW neg l = true
  · have ht := (rightW_top h1).1
    by_cases h2 : 2 < l.length
    · have hv : 18446744073709551616 ≤ val l := by
        have := val_lt_len (a := [4294967295, 4294967295]) (b := l) (by intro x hx; simp at hx; omega) ht (by simpa using h2)
        have h3 : l.length - 1 < l.length := by omega
        have h4 := val_split l (l.length - 1)
        rw [List.drop_eq_getElem_cons h3, val_cons] at h4
        have h5 : l[l.length - 1] ≠ 0 := by
          simp only [topOk, List.getD, List.getElem?_eq_getElem h3, Option.getD_some] at ht; exact ht
        have h6 : 4294967296 ^ 2 ≤ 4294967296 ^ (l.length - 1) := Nat.pow_le_pow_right (by omega) (by omega)
        have h7 : 4294967296 ^ (l.length - 1) * 1 ≤ 4294967296 ^ (l.length - 1) * (l[l.length - 1] + 4294967296 * val (List.drop (l.length - 1 + 1) l)) := Nat.mul_le_mul_left _ (by omega)
        omega
      have he : smallE neg l = 2 := by
        unfold smallE numW; rw [if_pos h1, if_pos]; cases neg <;> simp <;> omega
      have hn0 : smallN neg l = 0 := by simp [smallN, he]
      rw [he, hn0] at hQ
      simpa (disch := omega) [h1, h2] using hQ
    · simp (disch := omega) [h1, h2]
      refine GO_loopN (smallI neg i l n) l.length ⟨0, 0, by omega, by simp, by simp [At]⟩ ?_
      rintro k s ⟨j, v, hj, hv, ⟨e1, e2, e3, e4, e5⟩⟩
      simp at e5
      obtain ⟨e5, e6, e7, e8, e9⟩ := e5
      by_cases hk : j < l.length
      · have hx := ll.get hk
        obtain ⟨x, hx0⟩ : ∃ x, x = l[j] := ⟨_, rfl⟩
        have hvs := val_take_succ l j
        simp only [List.getD, List.getElem?_eq_getElem hk, Option.getD_some, ← hx0, ← hv] at hvs
        have hj2 : j = 0 ∨ j = 1 := by omega
        rcases hj2 with rfl | rfl
        · simp at hv
          subst hv
          have hor : binPV Tryd.prog .or 22 (.int .u64 0) (.int .u64 (x : Int)) = some (.int .u64 (x : Int)) := binPV_or_low (a := 0) (b := x) (k := 0) (c := x) (d := x) (by omega) (by omega) (by omega) (by omega)
          simp (disch := omega) [-binPV_or, c48L0, e1, e2, e3, e4, e5, e6, e7, e8, e9, hk, ← hx0, hor]
          refine ⟨k - 1, by omega, 1, x, by omega, by simpa using hvs.symm, by simp [At, e1, e2, e3, e4, e5, e6, e7, e8, e9]⟩
        · have hvl : v < 4294967296 := by
            have := val_lt (ll.take 1)
            rw [List.length_take, Nat.min_eq_left (by omega)] at this
            omega
          obtain ⟨s', hs'⟩ : ∃ s', s' = x * 4294967296 := ⟨_, rfl⟩
          have hsi : (x : Int) * 4294967296 = (s' : Int) := by omega
          have hor := binPV_or_low (P := Tryd.prog) (t := 22) (a := v) (b := s') (k := 32) (c := s' + v) (d := x) (by omega) (by omega) rfl (by omega)
          simp (disch := omega) [-binPV_or, c48L0, e1, e2, e3, e4, e5, e6, e7, e8, e9, hk, ← hx0, hsi, hor]
          have e0 : (1 : Nat) + 1 = 2 := rfl
          rw [e0] at hvs
          refine ⟨k - 1, by omega, 2, s' + v, by omega, by omega, by simp [At, e1, e2, e3, e4, e5, e6, e7, e8, e9]⟩
      · rw [List.take_of_length_le (by omega)] at hv
        have hvl : v < 18446744073709551616 := by
          have h3 := val_lt ll
          have h4 : 4294967296 ^ l.length ≤ 4294967296 ^ 2 := Nat.pow_le_pow_right (by omega) (by omega)
          omega
        by_cases c1 : 9223372036854775808 < v
        · have he : smallE neg l = 2 := by
            unfold smallE numW; rw [if_pos h1, if_pos]; cases neg <;> simp <;> omega
          have hn0 : smallN neg l = 0 := by simp [smallN, he]
          rw [he, hn0] at hQ
          simpa (disch := omega) [c48L0, c48R0, e1, e2, e3, e4, e5, e6, e7, e8, e9, hk, c1] using hQ
        · have hw : IntKind.i64.wrap (v : Int) = if v = 9223372036854775808 then -9223372036854775808 else (v : Int) := by
            by_cases h : v = 9223372036854775808
            · subst h; rw [if_pos rfl]; rfl
            · rw [if_neg h]; exact wrap_i64_is rfl (by omega)
          cases neg with
          | true =>
            have he : smallE true l = 0 := by
              unfold smallE numW; rw [if_pos h1, if_neg]; simp; omega
            have hn0 : smallN true l = -(v : Int) := by simp [smallN, he, numW, hv]
            rw [he, hn0] at hQ
            by_cases c2 : v = 9223372036854775808
            · subst c2
              have hw2 : IntKind.i64.wrap (9223372036854775808 : Int) = -9223372036854775808 := rfl
              have hw3 : IntKind.i64.wrap (0 - -9223372036854775808 : Int) = -9223372036854775808 := rfl
              have hw4 : IntKind.i64.wrap (0 - (-9223372036854775808 : Int)) = -9223372036854775808 := rfl
              simpa (disch := omega) [c48L0, c48R0, e1, e2, e3, e4, e5, e6, e7, e8, e9, hk, hw2, hw3] using hQ
            · have c3 : ¬ (v : Int) = 9223372036854775808 := by omega
              have hw2 : IntKind.i64.wrap (0 - (v : Int)) = -(v : Int) := wrap_i64_is (by omega) (by omega)
              simpa (disch := omega) [c48L0, c48R0, e1, e2, e3, e4, e5, e6, e7, e8, e9, hk, c1, c2, c3, hw2] using hQ
          | false =>
            by_cases c2 : v = 9223372036854775808
            · have he : smallE false l = 2 := by
                unfold smallE numW; rw [if_pos h1, if_pos]; simp; omega
              have hn0 : smallN false l = 0 := by simp [smallN, he]
              rw [he, hn0] at hQ
              subst c2
              simpa (disch := omega) [c48L0, c48R0, e1, e2, e3, e4, e5, e6, e7, e8, e9, hk] using hQ
            · have he : smallE false l = 0 := by
                unfold smallE numW; rw [if_pos h1, if_neg]; simp; omega
              have hn0 : smallN false l = (v : Int) := by simp [smallN, he, numW, hv]
              rw [he, hn0] at hQ
              have c3 : ¬ (v : Int) = 9223372036854775808 := by omega
              simpa (disch := omega) [c48L0, c48R0, e1, e2, e3, e4, e5, e6, e7, e8, e9, hk, c1, c2, c3] using hQ
  · have he : smallE neg l = 1 := by rw [Bool.not_eq_true] at h1; simp [smallE, h1]
    have hn0 : smallN neg l = 0 := by simp [smallN, he]
    rw [he, hn0] at hQ
    simpa [h1] using hQ
theorem small_Z {z : Int} (hz : -9223372036854775808 ≤ z ∧ z < 9223372036854775808) : sz z 2 ∧ smallE (decide (z < 0)) (dig z.natAbs) = 0 ∧ smallN (decide (z < 0)) (dig z.natAbs) = z := by
  have h1 : sz z 2 := by unfold sz; omega
  have h2 := h1.len
  have h3 : smallE (decide (z < 0)) (dig z.natAbs) = 0 := by
    unfold smallE; rw [rightW_Z (by omega), numW_dig, if_pos rfl, if_neg (by omega)]
  exact ⟨h1, h3, by unfold smallN; rw [h3, if_pos rfl, numW_dig]⟩
theorem Small_Z {n : Nat} (hn : 0 < n) (z : Int) (hz : -9223372036854775808 ≤ z ∧ z < 9223372036854775808) (i : Sid) {Q : PV → Nat → List Nat → Prop}
    (hQ : Q (.tup [.int .i64 z, .int .i64 0]) n []) : PCall Tryd.prog 48 [W (decide (z < 0)) i (dig z.natAbs)] n Q := by
  obtain ⟨h1, h2, h3⟩ := small_Z hz
  have h4 := h1.len
  refine Small_call hn _ i _ (by omega) (Lim.dig _) ?_
  rw [h2, h3]; exact hQ
end Go.Proofs.YtdaoblhmnafllaaDoor
