/- What the functions of layer 1 do, by value: the program's own, part two. -/
import Derived.Test.YtcdkgeeookcoeaaCtA
set_option linter.unusedVariables false
set_option linter.unusedSimpArgs false
namespace Go.Proofs.Ytcdkgeeookcoeaa
open Go.Proofs

theorem Add32_call {n : Nat} (hn : 0 < n) (x y c : Nat) (hx : x < 4294967296) (hy : y < 4294967296) (hc : c ≤ 1) {Q : PV → Nat → List Nat → Prop}
    (hQ : ∀ s d : Nat, s < 4294967296 → d ≤ 1 → s + 4294967296 * d = x + y + c → Q (.tup [.int .u32 s, .int .u32 d]) n []) : PCall Try.prog 62 [.int .u32 x, .int .u32 y, .int .u32 c] n Q := by
  refine of62 hn ?_
  have := hQ ((x + y + c) % 4294967296) ((x + y + c) / 4294967296) (by omega) (by omega) (by omega)
  simp (disch := omega) [c62]
  rw [wrap_u32_eq]
  simpa using this

theorem top_bit (z : BitVec 32) : z.toNat / 2147483648 = z.msb.toNat := by
  rw [BitVec.msb_eq_decide]; have := z.isLt
  by_cases h : 2147483648 ≤ z.toNat <;> simp [h] <;> omega
theorem ofNat_msb (x : Nat) (h : x < 4294967296) : (BitVec.ofNat 32 x).msb = decide (2147483648 ≤ x) := by
  rw [BitVec.msb_eq_decide, BitVec.toNat_ofNat, Nat.mod_eq_of_lt (by omega)]
theorem borrow_bit (x y d c : Nat) (hx : x < 4294967296) (hy : y < 4294967296) (hc : c ≤ 1) (hd : d < 4294967296) (e : d + y + c = x ∨ d + y + c = x + 4294967296) :
    ((4294967295#32 ^^^ BitVec.ofNat 32 x) &&& BitVec.ofNat 32 y ||| (4294967295#32 ^^^ (BitVec.ofNat 32 x ^^^ BitVec.ofNat 32 y)) &&& BitVec.ofNat 32 d).toNat / 2147483648 = if d + y + c = x then 0 else 1 := by
  rw [top_bit]
  simp only [BitVec.msb_or, BitVec.msb_and, BitVec.msb_xor, ofNat_msb _ hx, ofNat_msb _ hy, ofNat_msb _ hd]
  rw [show (4294967295#32 : BitVec 32).msb = true from by decide]
  by_cases h1 : 2147483648 ≤ x <;> by_cases h2 : 2147483648 ≤ y <;> by_cases h3 : 2147483648 ≤ d <;> by_cases h4 : d + y + c = x <;> simp [h1, h2, h3, h4] <;> omega

theorem Sub32_call {n : Nat} (hn : 0 < n) (x y c : Nat) (hx : x < 4294967296) (hy : y < 4294967296) (hc : c ≤ 1) {Q : PV → Nat → List Nat → Prop}
    (hQ : ∀ s d : Nat, s < 4294967296 → d ≤ 1 → s + y + c = x + 4294967296 * d → Q (.tup [.int .u32 s, .int .u32 d]) n []) : PCall Try.prog 63 [.int .u32 x, .int .u32 y, .int .u32 c] n Q := by
  refine of63 hn ?_
  obtain ⟨d, hd⟩ : ∃ d : Nat, d = (x + 8589934592 - y - c) % 4294967296 := ⟨_, rfl⟩
  have e : d + y + c = x ∨ d + y + c = x + 4294967296 := by omega
  have hw : IntKind.u32.wrap (IntKind.u32.wrap ((x : Int) - y) - c) = (d : Int) := by rw [wrap_u32_eq, wrap_u32_eq]; omega
  have hb := borrow_bit x y d c hx hy hc (by omega) e
  have := hQ d (if d + y + c = x then 0 else 1) (by omega) (by split <;> omega) (by split <;> omega)
  have hb' := congrArg (fun k : Nat => (k : Int)) hb
  simp only [Int.natCast_ediv] at hb'
  simp (disch := omega) [c63, hw, IntKind.signed, IntKind.max]
  erw [hb']
  exact this

theorem trim_call {n : Nat} (hn : 0 < n) (i : Sid) (l : List Nat) (hl : l.length < 1152921504606846976) {Q : PV → Nat → List Nat → Prop} (hQ : Q (.sl i 1 (u32s (trimL l))) n []) : PCall Try.prog 58 [.sl i 1 (u32s l)] n Q := by
  refine of58 hn ?_
  simp [c58]
  refine GO_loopN (fun k s => ∃ m : List Nat, m.length = k ∧ trimL m = trimL l ∧ m.length ≤ l.length ∧ At s 21 [] n [(0, .sl i 1 (u32s m))]) l.length ?_ ?_
  · exact ⟨l, rfl, rfl, by omega, by simp [At]⟩
  · rintro k s ⟨m, hm, ht, hle, ⟨e1, e2, e3, e4, e5⟩⟩
    simp at e5
    by_cases h1 : m = []
    · subst h1
      rw [← ht] at hQ
      simpa [c58L0, c58R0, e1, e2, e3, e4, e5, trimL] using hQ
    · have h2 : 0 < m.length := List.length_pos_iff.2 h1
      have h3 : m.length - 1 < m.length := by omega
      have hd := List.dropLast_concat_getLast h1
      rw [List.getLast_eq_getElem] at hd
      by_cases h4 : m[m.length - 1] = 0
      · simp (disch := omega) [c58L0, c58R0, e1, e2, e3, e4, e5, h2, h3, h4]
        refine ⟨k - 1, by omega, m.dropLast, by simp; omega, ?_, by simp; omega, ?_⟩
        · rw [h4] at hd; rw [← ht, ← hd, trim_snoc_zero]; simp
        · simp [At, e1, e2, e3, e4, List.dropLast_eq_take]
      · have : trimL l = m := by rw [← ht, ← hd]; exact trim_snoc h4
        rw [this] at hQ
        simpa (disch := omega) [c58L0, c58R0, e1, e2, e3, e4, e5, h2, h3, h4] using hQ

/-- A number as the program answers with it: with its limbs, or 0. -/
def WT (neg : Bool) (i : Sid) (l : List Nat) : PV := if l = [] then W false ⟨0, 0, 0⟩ [] else W neg i l
theorem of_call {n : Nat} (hn : 0 < n) (neg : Bool) (i : Sid) (l : List Nat) (hl : l.length < 1152921504606846976) {Q : PV → Nat → List Nat → Prop}
    (hQ : Q (.tup (if 512 < (trimL l).length then [W false ⟨0, 0, 0⟩ [], .int .i64 2] else [WT neg i (trimL l), .int .i64 0])) n []) : PCall Try.prog 55 [.bool neg, .sl i 1 (u32s l)] n Q := by
  refine of55 hn ?_
  simp [c55]
  refine CallK.of (by simp) (trim_call hn i l hl ?_)
  by_cases h1 : 512 < (trimL l).length
  · simp [h1, W] at hQ
    simpa [h1] using hQ
  · simp [h1, WT] at hQ
    by_cases h2 : trimL l = []
    · simp [h2, W] at hQ
      simpa [h1, h2] using hQ
    · simp [h2] at hQ
      simpa [h1, h2] using hQ

/-- Before a round of up's loop. -/
def upI (n : Nat) (ia ib : Sid) (a b : List Nat) (k : Nat) (s : St) : Prop :=
  ∃ (i c g nx : Nat) (out : List Nat), i + k = a.length ∧ At s 55 [] nx [(0, .sl ia 1 (u32s a)), (1, .sl ib 1 (u32s b)), (5, .sl ⟨n, g, 0⟩ 1 (u32s out)), (6, .int .u32 c), (23, .int .i64 a.length), (24, .int .i64 i)] ∧ tipOf s.tips g n = some i ∧ 0 < g ∧ g < nx ∧ n < nx ∧ out.length = i ∧ Lim out ∧ c ≤ 1 ∧ val out + 4294967296 ^ i * c = val (a.take i) + val (b.take i)
theorem sum_step {v vd w p t d c x y : Nat} (e : t + 4294967296 * d = x + y + c) (h : v + p * c = vd + w) : v + p * t + p * 4294967296 * d = vd + p * x + (w + p * y) := by
  have := congrArg (p * ·) e
  simp only [Nat.mul_add] at this
  rw [← Nat.mul_assoc] at this
  omega
theorem up_loop {n : Nat} (hn : 0 < n) (ia ib : Sid) (a b : List Nat) (ha : a.length < 35184372088800) (hba : b.length ≤ a.length) (la : Lim a) (lb : Lim b) {Q : PV → Nat → List Nat → Prop}
    (hQ : ∀ (i : Sid) (l : List Nat) (n' : Nat), n ≤ n' → n ≤ i.f → i.f < n' → Lim l → val l = val a + val b → l.length = a.length + 1 → Q (.sl i 1 (u32s l)) n' []) (s : St) (k : Nat) (h : upI n ia ib a b k s) :
    GO Try.prog (.loop c59L0) (PExit.inBlock 0 (PExit.then (GO Try.prog c59R0 (fin Try.prog [.tmp 4] n Q)) (fin Try.prog [.tmp 4] n Q))) s := by
  refine GO_loopN (upI n ia ib a b) k h ?_
  clear h k s
  rintro k s ⟨i, c, g, nx, out, hi, ⟨e1, e2, e3, e4, e5⟩, ht, hg, hgx, hnx, hol, lo, hc, hv⟩
  simp at e5
  obtain ⟨e5, e6, e7, e8, e9, e10⟩ := e5
  by_cases hk : i < a.length
  · have hx := la.get hk
    by_cases hy : i < b.length
    · have hyl := lb.get hy
      simp (disch := omega) [c59L0, e1, e2, e3, e4, e5, e6, e7, e8, e9, e10, hk, hy]
      refine CallK.of (by simp) (Add32_call (by omega) _ _ _ hx hyl hc fun t d ht1 hd1 he1 => ?_)
      simp (disch := omega) [e1, e2, e3, e4, e5, e6, e7, e8, e9, e10, hk, hy, ht, hol]
      refine ⟨by omega, k - 1, by omega, i + 1, d, nx + 1, nx + 2, out ++ [t], by omega, ?_, ?_, by omega, by omega, by omega, by simp [hol], lo.append (.one ht1), hd1, ?_⟩
      · simp [At, e1, e2, e3, e4, e5, e6, e7, e8, e9, e10]
      · simp
      · rw [val_append, val_take_succ, val_take_succ, hol, Nat.pow_succ]
        simpa [List.getD, hk, hy] using sum_step he1 hv
    · simp (disch := omega) [c59L0, e1, e2, e3, e4, e5, e6, e7, e8, e9, e10, hk, hy]
      refine CallK.of (by simp) (Add32_call (by omega) _ 0 _ hx (by omega) hc fun t d ht1 hd1 he1 => ?_)
      simp (disch := omega) [e1, e2, e3, e4, e5, e6, e7, e8, e9, e10, hk, hy, ht, hol]
      refine ⟨by omega, k - 1, by omega, i + 1, d, nx + 1, nx + 2, out ++ [t], by omega, ?_, ?_, by omega, by omega, by omega, by simp [hol], lo.append (.one ht1), hd1, ?_⟩
      · simp [At, e1, e2, e3, e4, e5, e6, e7, e8, e9, e10]
      · simp
      · rw [val_append, val_take_succ, val_take_succ, hol, Nat.pow_succ]
        simpa [List.getD, hk, hy] using sum_step he1 hv
  · have : i = a.length := by omega
    subst this
    simp (disch := omega) [c59L0, c59R0, e1, e2, e3, e4, e5, e6, e7, e8, e9, e10, hk, ht, hol]
    refine ⟨by omega, by omega, ?_⟩
    refine hQ _ _ _ (by omega) (by simp) (by simp; omega) (lo.append (.one (by omega))) ?_ (by simp [hol])
    rw [val_append, hol]
    rw [List.take_of_length_le (by omega), List.take_of_length_le (by omega)] at hv
    simpa using hv

theorem up_call {n : Nat} (hn : 0 < n) (ia ib : Sid) (a b : List Nat) (ha : a.length < 35184372088800) (hb : b.length < 35184372088800) (la : Lim a) (lb : Lim b) {Q : PV → Nat → List Nat → Prop}
    (hQ : ∀ (i : Sid) (l : List Nat) (n' : Nat), n ≤ n' → n ≤ i.f → i.f < n' → Lim l → val l = val a + val b → l.length = max a.length b.length + 1 → Q (.sl i 1 (u32s l)) n' []) : PCall Try.prog 59 [.sl ia 1 (u32s a), .sl ib 1 (u32s b)] n Q := by
  refine of59 hn ?_
  by_cases hab : a.length < b.length
  · simp (disch := omega) [c59, hab]
    refine ⟨by omega, by omega, ?_⟩
    refine up_loop hn ib ia b a hb (by omega) lb la (fun i l n' h1 h2 h3 h4 h5 h6 => hQ i l n' h1 h2 h3 h4 (by omega) (by omega)) _ b.length ?_
    exact ⟨0, 0, n, n + 1, [], by omega, by simp [At], by simp, by omega, by omega, by omega, rfl, .nil, by omega, by simp⟩
  · simp (disch := omega) [c59, hab]
    refine ⟨by omega, by omega, ?_⟩
    refine up_loop hn ia ib a b ha (by omega) la lb (fun i l n' h1 h2 h3 h4 h5 h6 => hQ i l n' h1 h2 h3 h4 (by omega) (by omega)) _ a.length ?_
    exact ⟨0, 0, n, n + 1, [], by omega, by simp [At], by simp, by omega, by omega, by omega, rfl, .nil, by omega, by simp⟩
end Go.Proofs.Ytcdkgeeookcoeaa
