/- What the functions of layer 1 do, by value: a number's value, if it is small. -/
import Derived.Test.YtaankihkejodgaaDoorCtL
import Derived.Test.YtaankihkejodgaaDoorCtJ
set_option linter.unusedVariables false
set_option linter.unusedSimpArgs false
namespace Go.Proofs.YtaankihkejodgaaDoor
open Go.Proofs

theorem or_nat {a b k : Nat} (ha : a < 2 ^ k) (hb : 2 ^ k * b + a < 18446744073709551616) : (BitVec.ofInt 64 ((a : Nat) : Int) ||| BitVec.ofInt 64 ((2 ^ k * b : Nat) : Int)).toNat = 2 ^ k * b + a := by
  rw [BitVec.ofInt_natCast, BitVec.ofInt_natCast, BitVec.toNat_or, BitVec.toNat_ofNat, BitVec.toNat_ofNat, Nat.mod_eq_of_lt (by omega), Nat.mod_eq_of_lt (by omega), Nat.or_comm, Nat.two_pow_add_eq_or_of_lt ha]
theorem binPV_or_low {P : Program} {t : TypeId} {a b k c d : Nat} (ha : a < 2 ^ k) (hb : b = 2 ^ k * d) (hc : c = b + a) (hl : c < 18446744073709551616) : binPV P .or t (.int .u64 (a : Int)) (.int .u64 (b : Int)) = some (.int .u64 (c : Int)) := by
  subst hb
  rw [binPV_or, bits_u64, or_nat ha (by omega), ← hc, wrap_u64_nat _ hl]
theorem binPV_or_high {P : Program} {t : TypeId} {a b k c d : Nat} (ha : a < 2 ^ k) (hb : b = 2 ^ k * d) (hc : c = b + a) (hl : c < 18446744073709551616) : binPV P .or t (.int .u64 (b : Int)) (.int .u64 (a : Int)) = some (.int .u64 (c : Int)) := by
  have := binPV_or_low (P := P) (t := t) ha hb hc hl
  rw [binPV_or] at this ⊢
  rw [BitVec.or_comm]; exact this

/-- Why a number's value can't be told. -/
def smallE (neg : Bool) (l : List Nat) : Int := if rightW neg l then (if numW neg l < -9223372036854775808 ∨ 9223372036854775807 < numW neg l then 2 else 0) else 1
def smallN (neg : Bool) (l : List Nat) : Int := if smallE neg l = 0 then numW neg l else 0
def smallI (neg : Bool) (i : Sid) (l : List Nat) (n : Nat) (k : Nat) (s : St) : Prop :=
  ∃ (j v : Nat), j + k = l.length ∧ v = val (l.take j) ∧ At s 48 [[.bool neg, .sl i 1 (u32s l)]] n [(1, .box 0 0), (4, .int .u64 v), (15, .sl i 1 (u32s l)), (16, .int .i64 l.length), (17, .int .i64 j)]
theorem small_Z {z : Int} (hz : -9223372036854775808 ≤ z ∧ z < 9223372036854775808) : sz z 2 ∧ smallE (decide (z < 0)) (dig z.natAbs) = 0 ∧ smallN (decide (z < 0)) (dig z.natAbs) = z := by
  have h1 : sz z 2 := by unfold sz; omega
  have h2 := h1.len
  have h3 : smallE (decide (z < 0)) (dig z.natAbs) = 0 := by
    unfold smallE; rw [rightW_Z (by omega), numW_dig, if_pos rfl, if_neg (by omega)]
  exact ⟨h1, h3, by unfold smallN; rw [h3, if_pos rfl, numW_dig]⟩
end Go.Proofs.YtaankihkejodgaaDoor
