/- What the functions of layer 1 do, by value: the program's own, part two. -/
import Derived.Test.YtdaoblhmnafllaaDoorCtA
set_option linter.unusedVariables false
set_option linter.unusedSimpArgs false
namespace Go.Proofs.YtdaoblhmnafllaaDoor
open Go.Proofs

theorem top_bit (z : BitVec 32) : z.toNat / 2147483648 = z.msb.toNat := by
  rw [BitVec.msb_eq_decide]; have := z.isLt
  by_cases h : 2147483648 ≤ z.toNat <;> simp [h] <;> omega
theorem ofNat_msb (x : Nat) (h : x < 4294967296) : (BitVec.ofNat 32 x).msb = decide (2147483648 ≤ x) := by
  rw [BitVec.msb_eq_decide, BitVec.toNat_ofNat, Nat.mod_eq_of_lt (by omega)]
theorem borrow_bit (x y d c : Nat) (hx : x < 4294967296) (hy : y < 4294967296) (hc : c ≤ 1) (hd : d < 4294967296) (e : d + y + c = x ∨ d + y + c = x + 4294967296) :
    ((4294967295#32 ^^^ BitVec.ofNat 32 x) &&& BitVec.ofNat 32 y ||| (4294967295#32 ^^^ (BitVec.ofNat 32 x ^^^ BitVec.ofNat 32 y)) &&& BitVec.ofNat 32 d).toNat / 2147483648 = if d + y + c = x then 0 else 1 := by
  rw [top_bit]
  simp only [BitVec.msb_or, BitVec.msb_and, BitVec.msb_xor, ofNat_msb _ hx, ofNat_msb _ hy, ofNat_msb _ hd]
  rw [show (4294967295#32 : BitVec 32).msb = true from by decide]
  by_cases h1 : 2147483648 ≤ x <;> by_cases h2 : 2147483648 ≤ y <;> by_cases h3 : 2147483648 ≤ d <;> by_cases h4 : d + y + c = x <;> simp [h1, h2, h3, h4] <;> omega

theorem trim_call {n : Nat} (hn : 0 < n) (i : Sid) (l : List Nat) (hl : l.length < 1152921504606846976) {Q : PV → Nat → List Nat → Prop} (hQ : Q (.sl i 1 (u32s (trimL l))) n []) : PCall Tryd.prog 74 [.sl i 1 (u32s l)] n Q := by
  refine of74 hn ?_
  simp [c74]
  refine GO_loopN (fun k s => ∃ m : List Nat, m.length = k ∧ trimL m = trimL l ∧ m.length ≤ l.length ∧ At s 21 [] n [(0, .sl i 1 (u32s m))]) l.length ?_ ?_
  · exact ⟨l, rfl, rfl, by omega, by simp [At]⟩
  · rintro k s ⟨m, hm, ht, hle, ⟨e1, e2, e3, e4, e5⟩⟩
    simp at e5
    by_cases h1 : m = []
    · subst h1
      rw [← ht] at hQ
      simpa [c74L0, c74R0, e1, e2, e3, e4, e5, trimL] using hQ
    · have h2 : 0 < m.length := List.length_pos_iff.2 h1
      have h3 : m.length - 1 < m.length := by omega
      have hd := List.dropLast_concat_getLast h1
      rw [List.getLast_eq_getElem] at hd
      by_cases h4 : m[m.length - 1] = 0
      · simp (disch := omega) [c74L0, c74R0, e1, e2, e3, e4, e5, h2, h3, h4]
        refine ⟨k - 1, by omega, m.dropLast, by simp; omega, ?_, by simp; omega, ?_⟩
        · rw [h4] at hd; rw [← ht, ← hd, trim_snoc_zero]; simp
        · simp [At, e1, e2, e3, e4, List.dropLast_eq_take]
      · have : trimL l = m := by rw [← ht, ← hd]; exact trim_snoc h4
        rw [this] at hQ
        simpa (disch := omega) [c74L0, c74R0, e1, e2, e3, e4, e5, h2, h3, h4] using hQ

/-- A number as the program answers with it: with its limbs, or 0. -/
def WT (neg : Bool) (i : Sid) (l : List Nat) : PV := if l = [] then W false ⟨0, 0, 0⟩ [] else W neg i l
theorem of_call {n : Nat} (hn : 0 < n) (neg : Bool) (i : Sid) (l : List Nat) (hl : l.length < 1152921504606846976) {Q : PV → Nat → List Nat → Prop}
    (hQ : Q (.tup (if 512 < (trimL l).length then [W false ⟨0, 0, 0⟩ [], .int .i64 2] else [WT neg i (trimL l), .int .i64 0])) n []) : PCall Tryd.prog 62 [.bool neg, .sl i 1 (u32s l)] n Q := by
  refine of62 hn ?_
  simp [c62]
  refine CallK.of (by simp) (trim_call hn i l hl ?_)
  by_cases h1 : 512 < (trimL l).length
  · simp [h1, W] at hQ
    simpa [h1] using hQ
  · simp [h1, WT] at hQ
    by_cases h2 : trimL l = []
    · simp [h2, W] at hQ
      simpa [h1, h2] using hQ
    · simp [h2] at hQ
      simpa [h1, h2] using hQ

/-- Before a round of up's loop. -/
def upI (n : Nat) (ia ib : Sid) (a b : List Nat) (k : Nat) (s : St) : Prop :=
  ∃ (i c g nx : Nat) (out : List Nat), i + k = a.length ∧ At s 55 [] nx [(0, .sl ia 1 (u32s a)), (1, .sl ib 1 (u32s b)), (5, .sl ⟨n, g, 0⟩ 1 (u32s out)), (6, .int .u32 c), (23, .int .i64 a.length), (24, .int .i64 i)] ∧ tipOf s.tips g n = some i ∧ 0 < g ∧ g < nx ∧ n < nx ∧ out.length = i ∧ Lim out ∧ c ≤ 1 ∧ val out + 4294967296 ^ i * c = val (a.take i) + val (b.take i)
theorem sum_step {v vd w p t d c x y : Nat} (e : t + 4294967296 * d = x + y + c) (h : v + p * c = vd + w) : v + p * t + p * 4294967296 * d = vd + p * x + (w + p * y) := by
  have := congrArg (p * ·) e
  simp only [Nat.mul_add] at this
  rw [← Nat.mul_assoc] at this
  omega
end Go.Proofs.YtdaoblhmnafllaaDoor
