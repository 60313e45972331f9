/- Several texts as one: CtA, CtB, CtC, CtD, CtE, CtF, CtG, CtP, CtH, CtI, CtJ, CtK, CtL, CtM, CtN, CtO. -/
import Derived.Test.YtphndngifjgeoaaGreatDoorCdB
import Derived.Test.YtphndngifjgeoaaGreatDoorLwA
import Derived.Test.YtphndngifjgeoaaGreatDoorBvP
/-! CtA: What the functions of layer 1 do, by value: the program's own, part one. -/
set_option linter.unusedVariables false
set_option linter.unusedSimpArgs false
namespace Go.Proofs.YtphndngifjgeoaaGreatDoor
open Go.Proofs

theorem Same_call {n : Nat} (hn : 0 < n) (na nb : Bool) (ia ib : Sid) (a b : List Nat) (ha : a.length < 1152921504606846976) {Q : PV → Nat → List Nat → Prop} (hQ : Q (.bool (na == nb && decide (a = b))) n []) : PCall Tryz.prog 44 [W na ia a, W nb ib b] n Q := by
  refine of44 hn ?_
  by_cases h1 : na = nb
  · by_cases h2 : a.length = b.length
    · subst h1
      simp [c44, h2]
      refine GO_loopN (fun k s => ∃ i : Nat, i + k = b.length ∧ At s 38 [[.bool na, .sl ia 1 (u32s a)], [.bool na, .sl ib 1 (u32s b)]] n [(2, .box 0 0), (3, .box 1 0), (5, .int .i64 i)] ∧ a.take i = b.take i) b.length ?_ ?_
      · refine ⟨0, by omega, ?_, by simp⟩
        simp [At]
      · rintro k s ⟨i, hi, ⟨e1, e2, e3, e4, e5⟩, ht⟩
        simp at e5
        obtain ⟨e5, e6, e7⟩ := e5
        by_cases hk : i < b.length
        · by_cases hx : a[i] = b[i]
          · simp (disch := omega) [c44L0, e1, e2, e3, e4, e5, e6, e7, hk, h2, hx]
            refine ⟨k - 1, by omega, i + 1, by omega, ?_, ?_⟩
            · simp [At, e1, e2, e3, e4, e5, e6, e7]
            · rw [List.take_succ_eq_append_getElem (by omega), List.take_succ_eq_append_getElem (by omega), ht, hx]
          · have : ¬ a = b := fun e => hx (by simp [e])
            simp [this] at hQ
            simpa (disch := omega) [c44L0, e1, e2, e3, e4, e5, e6, e7, hk, h2, hx] using hQ
        · rw [List.take_of_length_le (by omega), List.take_of_length_le (by omega)] at ht
          simp [ht] at hQ
          simpa [c44L0, c44R0, e1, e2, e3, e4, e5, e6, e7, hk, h2] using hQ
    · have : ¬ a = b := fun e => h2 (by rw [e])
      simp [this] at hQ
      simpa [c44, h1, h2] using hQ
  · cases na <;> cases nb <;> simp at h1 <;> simpa [c44] using hQ

/-- Is a number right? -/
def rightW (neg : Bool) (l : List Nat) : Bool := decide (l.length ≤ 512) && !(decide (l.length = 0) && neg) && decide (topOk l)

theorem Check_call {n : Nat} (hn : 0 < n) (neg : Bool) (i : Sid) (l : List Nat) (hl : l.length < 9223372036854775808) {Q : PV → Nat → List Nat → Prop} (hQ : Q (.int .i64 (if rightW neg l then 0 else 1)) n []) : PCall Tryz.prog 67 [W neg i l] n Q := by
  refine of67 hn ?_
  by_cases h1 : 512 < l.length
  · have : rightW neg l = false := by simp [rightW]; omega
    simpa [c67, h1, this] using hQ
  · by_cases h2 : l.length = 0
    · have e := List.length_eq_zero_iff.1 h2
      subst e
      cases neg <;> simpa [c67, rightW, topOk] using hQ
    · have h3 : 0 < l.length := by omega
      have h4 : l.length - 1 < l.length := by omega
      by_cases h5 : l[l.length - 1] = 0
      · have : rightW neg l = false := by simp [rightW, topOk, h5, List.getElem?_eq_getElem h4]
        simpa (disch := omega) [c67, h1, h2, h3, h4, h5, this] using hQ
      · have : rightW neg l = true := by simp [rightW, topOk, h5, h2, List.getElem?_eq_getElem h4]; omega
        simpa (disch := omega) [c67, h1, h2, h3, h4, h5, this] using hQ

theorem two_call {n : Nat} (hn : 0 < n) (na nb : Bool) (ia ib : Sid) (a b : List Nat) (ha : a.length < 1152921504606846976) (hb : b.length < 1152921504606846976) {Q : PV → Nat → List Nat → Prop} (hQ : Q (.bool (rightW na a && rightW nb b)) n []) : PCall Tryz.prog 96 [W na ia a, W nb ib b] n Q := by
  refine of96 hn ?_
  simp [c96]
  refine CallK.of (by simp) (Check_call hn na ia a (by omega) ?_)
  by_cases h1 : rightW na a = true
  · simp [h1]
    refine CallK.of (by simp) (Check_call hn nb ib b (by omega) ?_)
    simp only [h1] at hQ
    by_cases h2 : rightW nb b = true
    · simp [h2] at hQ ⊢; exact hQ
    · simp [h2] at hQ ⊢; exact hQ
  · simp [h1] at hQ ⊢; exact hQ

end Go.Proofs.YtphndngifjgeoaaGreatDoor

/-! CtB: What the functions of layer 1 do, by value: the program's own, part two. -/
set_option linter.unusedVariables false
set_option linter.unusedSimpArgs false
namespace Go.Proofs.YtphndngifjgeoaaGreatDoor
open Go.Proofs

theorem Add32_call {n : Nat} (hn : 0 < n) (x y c : Nat) (hx : x < 4294967296) (hy : y < 4294967296) (hc : c ≤ 1) {Q : PV → Nat → List Nat → Prop}
    (hQ : ∀ s d : Nat, s < 4294967296 → d ≤ 1 → s + 4294967296 * d = x + y + c → Q (.tup [.int .u32 s, .int .u32 d]) n []) : PCall Tryz.prog 103 [.int .u32 x, .int .u32 y, .int .u32 c] n Q := by
  refine of103 hn ?_
  have := hQ ((x + y + c) % 4294967296) ((x + y + c) / 4294967296) (by omega) (by omega) (by omega)
  simp (disch := omega) [c103]
  rw [wrap_u32_eq]
  simpa using this

theorem top_bit (z : BitVec 32) : z.toNat / 2147483648 = z.msb.toNat := by
  rw [BitVec.msb_eq_decide]; have := z.isLt
  by_cases h : 2147483648 ≤ z.toNat <;> simp [h] <;> omega
theorem ofNat_msb (x : Nat) (h : x < 4294967296) : (BitVec.ofNat 32 x).msb = decide (2147483648 ≤ x) := by
  rw [BitVec.msb_eq_decide, BitVec.toNat_ofNat, Nat.mod_eq_of_lt (by omega)]
theorem borrow_bit (x y d c : Nat) (hx : x < 4294967296) (hy : y < 4294967296) (hc : c ≤ 1) (hd : d < 4294967296) (e : d + y + c = x ∨ d + y + c = x + 4294967296) :
    ((4294967295#32 ^^^ BitVec.ofNat 32 x) &&& BitVec.ofNat 32 y ||| (4294967295#32 ^^^ (BitVec.ofNat 32 x ^^^ BitVec.ofNat 32 y)) &&& BitVec.ofNat 32 d).toNat / 2147483648 = if d + y + c = x then 0 else 1 := by
  rw [top_bit]
  simp only [BitVec.msb_or, BitVec.msb_and, BitVec.msb_xor, ofNat_msb _ hx, ofNat_msb _ hy, ofNat_msb _ hd]
  rw [show (4294967295#32 : BitVec 32).msb = true from by decide]
  by_cases h1 : 2147483648 ≤ x <;> by_cases h2 : 2147483648 ≤ y <;> by_cases h3 : 2147483648 ≤ d <;> by_cases h4 : d + y + c = x <;> simp [h1, h2, h3, h4] <;> omega

theorem Sub32_call {n : Nat} (hn : 0 < n) (x y c : Nat) (hx : x < 4294967296) (hy : y < 4294967296) (hc : c ≤ 1) {Q : PV → Nat → List Nat → Prop}
    (hQ : ∀ s d : Nat, s < 4294967296 → d ≤ 1 → s + y + c = x + 4294967296 * d → Q (.tup [.int .u32 s, .int .u32 d]) n []) : PCall Tryz.prog 104 [.int .u32 x, .int .u32 y, .int .u32 c] n Q := by
  refine of104 hn ?_
  obtain ⟨d, hd⟩ : ∃ d : Nat, d = (x + 8589934592 - y - c) % 4294967296 := ⟨_, rfl⟩
  have e : d + y + c = x ∨ d + y + c = x + 4294967296 := by omega
  have hw : IntKind.u32.wrap (IntKind.u32.wrap ((x : Int) - y) - c) = (d : Int) := by rw [wrap_u32_eq, wrap_u32_eq]; omega
  have hb := borrow_bit x y d c hx hy hc (by omega) e
  have := hQ d (if d + y + c = x then 0 else 1) (by omega) (by split <;> omega) (by split <;> omega)
  have hb' := congrArg (fun k : Nat => (k : Int)) hb
  simp only [Int.natCast_ediv] at hb'
  simp (disch := omega) [c104, hw, IntKind.signed, IntKind.max]
  erw [hb']
  exact this

theorem trim_call {n : Nat} (hn : 0 < n) (i : Sid) (l : List Nat) (hl : l.length < 1152921504606846976) {Q : PV → Nat → List Nat → Prop} (hQ : Q (.sl i 1 (u32s (trimL l))) n []) : PCall Tryz.prog 88 [.sl i 1 (u32s l)] n Q := by
  refine of88 hn ?_
  simp [c88]
  refine GO_loopN (fun k s => ∃ m : List Nat, m.length = k ∧ trimL m = trimL l ∧ m.length ≤ l.length ∧ At s 21 [] n [(0, .sl i 1 (u32s m))]) l.length ?_ ?_
  · exact ⟨l, rfl, rfl, by omega, by simp [At]⟩
  · rintro k s ⟨m, hm, ht, hle, ⟨e1, e2, e3, e4, e5⟩⟩
    simp at e5
    by_cases h1 : m = []
    · subst h1
      rw [← ht] at hQ
      simpa [c88L0, c88R0, e1, e2, e3, e4, e5, trimL] using hQ
    · have h2 : 0 < m.length := List.length_pos_iff.2 h1
      have h3 : m.length - 1 < m.length := by omega
      have hd := List.dropLast_concat_getLast h1
      rw [List.getLast_eq_getElem] at hd
      by_cases h4 : m[m.length - 1] = 0
      · simp (disch := omega) [c88L0, c88R0, e1, e2, e3, e4, e5, h2, h3, h4]
        refine ⟨k - 1, by omega, m.dropLast, by simp; omega, ?_, by simp; omega, ?_⟩
        · rw [h4] at hd; rw [← ht, ← hd, trim_snoc_zero]; simp
        · simp [At, e1, e2, e3, e4, List.dropLast_eq_take]
      · have : trimL l = m := by rw [← ht, ← hd]; exact trim_snoc h4
        rw [this] at hQ
        simpa (disch := omega) [c88L0, c88R0, e1, e2, e3, e4, e5, h2, h3, h4] using hQ

/-- A number as the program answers with it: with its limbs, or 0. -/
def WT (neg : Bool) (i : Sid) (l : List Nat) : PV := if l = [] then W false ⟨0, 0, 0⟩ [] else W neg i l
theorem of_call {n : Nat} (hn : 0 < n) (neg : Bool) (i : Sid) (l : List Nat) (hl : l.length < 1152921504606846976) {Q : PV → Nat → List Nat → Prop}
    (hQ : Q (.tup (if 512 < (trimL l).length then [W false ⟨0, 0, 0⟩ [], .int .i64 2] else [WT neg i (trimL l), .int .i64 0])) n []) : PCall Tryz.prog 68 [.bool neg, .sl i 1 (u32s l)] n Q := by
  refine of68 hn ?_
  simp [c68]
  refine CallK.of (by simp) (trim_call hn i l hl ?_)
  by_cases h1 : 512 < (trimL l).length
  · simp [h1, W] at hQ
    simpa [h1] using hQ
  · simp [h1, WT] at hQ
    by_cases h2 : trimL l = []
    · simp [h2, W] at hQ
      simpa [h1, h2] using hQ
    · simp [h2] at hQ
      simpa [h1, h2] using hQ

/-- Before a round of up's loop. -/
def upI (n : Nat) (ia ib : Sid) (a b : List Nat) (k : Nat) (s : St) : Prop :=
  ∃ (i c g nx : Nat) (out : List Nat), i + k = a.length ∧ At s 55 [] nx [(0, .sl ia 1 (u32s a)), (1, .sl ib 1 (u32s b)), (5, .sl ⟨n, g, 0⟩ 1 (u32s out)), (6, .int .u32 c), (23, .int .i64 a.length), (24, .int .i64 i)] ∧ tipOf s.tips g n = some i ∧ 0 < g ∧ g < nx ∧ n < nx ∧ out.length = i ∧ Lim out ∧ c ≤ 1 ∧ val out + 4294967296 ^ i * c = val (a.take i) + val (b.take i)
theorem sum_step {v vd w p t d c x y : Nat} (e : t + 4294967296 * d = x + y + c) (h : v + p * c = vd + w) : v + p * t + p * 4294967296 * d = vd + p * x + (w + p * y) := by
  have := congrArg (p * ·) e
  simp only [Nat.mul_add] at this
  rw [← Nat.mul_assoc] at this
  omega
theorem up_loop {n : Nat} (hn : 0 < n) (ia ib : Sid) (a b : List Nat) (ha : a.length < 35184372088800) (hba : b.length ≤ a.length) (la : Lim a) (lb : Lim b) {Q : PV → Nat → List Nat → Prop}
    (hQ : ∀ (i : Sid) (l : List Nat) (n' : Nat), n ≤ n' → n ≤ i.f → i.f < n' → Lim l → val l = val a + val b → l.length = a.length + 1 → Q (.sl i 1 (u32s l)) n' []) (s : St) (k : Nat) (h : upI n ia ib a b k s) :
    GO Tryz.prog (.loop c100L0) (PExit.inBlock 0 (PExit.then (GO Tryz.prog c100R0 (fin Tryz.prog [.tmp 4] n Q)) (fin Tryz.prog [.tmp 4] n Q))) s := by
  refine GO_loopN (upI n ia ib a b) k h ?_
  clear h k s
  rintro k s ⟨i, c, g, nx, out, hi, ⟨e1, e2, e3, e4, e5⟩, ht, hg, hgx, hnx, hol, lo, hc, hv⟩
  simp at e5
  obtain ⟨e5, e6, e7, e8, e9, e10⟩ := e5
  by_cases hk : i < a.length
  · have hx := la.get hk
    by_cases hy : i < b.length
    · have hyl := lb.get hy
      simp (disch := omega) [c100L0, e1, e2, e3, e4, e5, e6, e7, e8, e9, e10, hk, hy]
      refine CallK.of (by simp) (Add32_call (by omega) _ _ _ hx hyl hc fun t d ht1 hd1 he1 => ?_)
      simp (disch := omega) [e1, e2, e3, e4, e5, e6, e7, e8, e9, e10, hk, hy, ht, hol]
      refine ⟨by omega, k - 1, by omega, i + 1, d, nx + 1, nx + 2, out ++ [t], by omega, ?_, ?_, by omega, by omega, by omega, by simp [hol], lo.append (.one ht1), hd1, ?_⟩
      · simp [At, e1, e2, e3, e4, e5, e6, e7, e8, e9, e10]
      · simp
      · rw [val_append, val_take_succ, val_take_succ, hol, Nat.pow_succ]
        simpa [List.getD, hk, hy] using sum_step he1 hv
    · simp (disch := omega) [c100L0, e1, e2, e3, e4, e5, e6, e7, e8, e9, e10, hk, hy]
      refine CallK.of (by simp) (Add32_call (by omega) _ 0 _ hx (by omega) hc fun t d ht1 hd1 he1 => ?_)
      simp (disch := omega) [e1, e2, e3, e4, e5, e6, e7, e8, e9, e10, hk, hy, ht, hol]
      refine ⟨by omega, k - 1, by omega, i + 1, d, nx + 1, nx + 2, out ++ [t], by omega, ?_, ?_, by omega, by omega, by omega, by simp [hol], lo.append (.one ht1), hd1, ?_⟩
      · simp [At, e1, e2, e3, e4, e5, e6, e7, e8, e9, e10]
      · simp
      · rw [val_append, val_take_succ, val_take_succ, hol, Nat.pow_succ]
        simpa [List.getD, hk, hy] using sum_step he1 hv
  · have : i = a.length := by omega
    subst this
    simp (disch := omega) [c100L0, c100R0, e1, e2, e3, e4, e5, e6, e7, e8, e9, e10, hk, ht, hol]
    refine ⟨by omega, by omega, ?_⟩
    refine hQ _ _ _ (by omega) (by simp) (by simp; omega) (lo.append (.one (by omega))) ?_ (by simp [hol])
    rw [val_append, hol]
    rw [List.take_of_length_le (by omega), List.take_of_length_le (by omega)] at hv
    simpa using hv

theorem up_call {n : Nat} (hn : 0 < n) (ia ib : Sid) (a b : List Nat) (ha : a.length < 35184372088800) (hb : b.length < 35184372088800) (la : Lim a) (lb : Lim b) {Q : PV → Nat → List Nat → Prop}
    (hQ : ∀ (i : Sid) (l : List Nat) (n' : Nat), n ≤ n' → n ≤ i.f → i.f < n' → Lim l → val l = val a + val b → l.length = max a.length b.length + 1 → Q (.sl i 1 (u32s l)) n' []) : PCall Tryz.prog 100 [.sl ia 1 (u32s a), .sl ib 1 (u32s b)] n Q := by
  refine of100 hn ?_
  by_cases hab : a.length < b.length
  · simp (disch := omega) [c100, hab]
    refine ⟨by omega, by omega, ?_⟩
    refine up_loop hn ib ia b a hb (by omega) lb la (fun i l n' h1 h2 h3 h4 h5 h6 => hQ i l n' h1 h2 h3 h4 (by omega) (by omega)) _ b.length ?_
    exact ⟨0, 0, n, n + 1, [], by omega, by simp [At], by simp, by omega, by omega, by omega, rfl, .nil, by omega, by simp⟩
  · simp (disch := omega) [c100, hab]
    refine ⟨by omega, by omega, ?_⟩
    refine up_loop hn ia ib a b ha (by omega) la lb (fun i l n' h1 h2 h3 h4 h5 h6 => hQ i l n' h1 h2 h3 h4 (by omega) (by omega)) _ a.length ?_
    exact ⟨0, 0, n, n + 1, [], by omega, by simp [At], by simp, by omega, by omega, by omega, rfl, .nil, by omega, by simp⟩
end Go.Proofs.YtphndngifjgeoaaGreatDoor

/-! CtC: What the functions of layer 1 do, by value: the program's own, part three. -/
set_option linter.unusedVariables false
set_option linter.unusedSimpArgs false
namespace Go.Proofs.YtphndngifjgeoaaGreatDoor
open Go.Proofs

/-- Before a round of down's loop. -/
def downI (n : Nat) (ia ib : Sid) (a b : List Nat) (k : Nat) (s : St) : Prop :=
  ∃ (i c g nx : Nat) (out : List Nat), i + k = a.length ∧ At s 44 [] nx [(0, .sl ia 1 (u32s a)), (1, .sl ib 1 (u32s b)), (5, .sl ⟨n, g, 0⟩ 1 (u32s out)), (6, .int .u32 c), (15, .int .i64 a.length), (16, .int .i64 i)] ∧ tipOf s.tips g n = some i ∧ 0 < g ∧ g < nx ∧ n < nx ∧ out.length = i ∧ Lim out ∧ c ≤ 1 ∧ val out + val (b.take i) = val (a.take i) + 4294967296 ^ i * c
theorem diff_step {v vb p t d c x y va : Nat} (e : t + y + c = x + 4294967296 * d) (h : v + vb = va + p * c) : v + p * t + (vb + p * y) = va + p * x + p * 4294967296 * d := by
  have := congrArg (p * ·) e
  simp only [Nat.mul_add] at this
  rw [← Nat.mul_assoc p 4294967296] at this
  omega
theorem down_loop {n : Nat} (hn : 0 < n) (ia ib : Sid) (a b : List Nat) (ha : a.length < 35184372088800) (hb : b.length < 35184372088800) (la : Lim a) (lb : Lim b) {Q : PV → Nat → List Nat → Prop}
    (hQ : ∀ (i : Sid) (l : List Nat) (n' c : Nat), n ≤ n' → n ≤ i.f → i.f < n' → Lim l → val l + val (b.take a.length) = val a + 4294967296 ^ a.length * c → l.length = a.length → Q (.sl i 1 (u32s l)) n' []) (s : St) (k : Nat) (h : downI n ia ib a b k s) :
    GO Tryz.prog (.loop c102L0) (PExit.inBlock 0 (PExit.then (GO Tryz.prog c102R0 (fin Tryz.prog [.tmp 4] n Q)) (fin Tryz.prog [.tmp 4] n Q))) s := by
  refine GO_loopN (downI n ia ib a b) k h ?_
  clear h k s
  rintro k s ⟨i, c, g, nx, out, hi, ⟨e1, e2, e3, e4, e5⟩, ht, hg, hgx, hnx, hol, lo, hc, hv⟩
  simp at e5
  obtain ⟨e5, e6, e7, e8, e9, e10⟩ := e5
  by_cases hk : i < a.length
  · have hx := la.get hk
    by_cases hy : i < b.length
    · have hyl := lb.get hy
      simp (disch := omega) [c102L0, e1, e2, e3, e4, e5, e6, e7, e8, e9, e10, hk, hy]
      refine CallK.of (by simp) (Sub32_call (by omega) _ _ _ hx hyl hc fun t d ht1 hd1 he1 => ?_)
      simp (disch := omega) [e1, e2, e3, e4, e5, e6, e7, e8, e9, e10, hk, hy, ht, hol]
      refine ⟨by omega, k - 1, by omega, i + 1, d, nx + 1, nx + 2, out ++ [t], by omega, ?_, ?_, by omega, by omega, by omega, by simp [hol], lo.append (.one ht1), hd1, ?_⟩
      · simp [At, e1, e2, e3, e4, e5, e6, e7, e8, e9, e10]
      · simp
      · rw [val_append, val_take_succ, val_take_succ, hol, Nat.pow_succ]
        simpa [List.getD, hk, hy] using diff_step he1 hv
    · simp (disch := omega) [c102L0, e1, e2, e3, e4, e5, e6, e7, e8, e9, e10, hk, hy]
      refine CallK.of (by simp) (Sub32_call (by omega) _ 0 _ hx (by omega) hc fun t d ht1 hd1 he1 => ?_)
      simp (disch := omega) [e1, e2, e3, e4, e5, e6, e7, e8, e9, e10, hk, hy, ht, hol]
      refine ⟨by omega, k - 1, by omega, i + 1, d, nx + 1, nx + 2, out ++ [t], by omega, ?_, ?_, by omega, by omega, by omega, by simp [hol], lo.append (.one ht1), hd1, ?_⟩
      · simp [At, e1, e2, e3, e4, e5, e6, e7, e8, e9, e10]
      · simp
      · rw [val_append, val_take_succ, val_take_succ, hol, Nat.pow_succ]
        simpa [List.getD, hk, hy] using diff_step he1 hv
  · have : i = a.length := by omega
    subst this
    simp (disch := omega) [c102L0, c102R0, e1, e2, e3, e4, e5, e6, e7, e8, e9, e10, hk, ht, hol]
    refine ⟨by omega, ?_⟩
    refine hQ _ _ _ c (by omega) (by simp) (by simp; omega) lo ?_ hol
    rw [List.take_of_length_le (l := a) (by omega)] at hv
    exact hv

theorem down_call {n : Nat} (hn : 0 < n) (ia ib : Sid) (a b : List Nat) (ha : a.length < 35184372088800) (hb : b.length < 35184372088800) (la : Lim a) (lb : Lim b) {Q : PV → Nat → List Nat → Prop}
    (hQ : ∀ (i : Sid) (l : List Nat) (n' : Nat), n ≤ n' → n ≤ i.f → i.f < n' → Lim l → (b.length ≤ a.length → val b ≤ val a → val l = val a - val b) → l.length = a.length → Q (.sl i 1 (u32s l)) n' []) : PCall Tryz.prog 102 [.sl ia 1 (u32s a), .sl ib 1 (u32s b)] n Q := by
  refine of102 hn ?_
  simp (disch := omega) [c102]
  refine ⟨by omega, ?_⟩
  refine down_loop hn ia ib a b ha hb la lb (fun i l n' c h1 h2 h3 h4 h5 h6 => hQ i l n' h1 h2 h3 h4 (fun hl hv => ?_) h6) _ a.length ?_
  · rw [val_take_all hl] at h5
    have hb := val_lt h4
    rw [h6] at hb
    cases c with
    | zero => omega
    | succ c => rw [Nat.mul_add] at h5; omega
  · exact ⟨0, 0, n, n + 1, [], by omega, by simp [At], by simp, by omega, by omega, by omega, rfl, .nil, by omega, by simp⟩

/-- Which of limbs are more. -/
def sizeL (a b : List Nat) : Int := if a.length < b.length then -1 else if b.length < a.length then 1 else if val a < val b then -1 else if val b < val a then 1 else 0
def sizeI (n : Nat) (ia ib : Sid) (a b : List Nat) (k : Nat) (s : St) : Prop :=
  k ≤ a.length ∧ At s 43 [] n [(0, .sl ia 1 (u32s a)), (1, .sl ib 1 (u32s b)), (5, .int .i64 ((k : Int) - 1))] ∧ a.drop k = b.drop k
theorem size_call {n : Nat} (hn : 0 < n) (ia ib : Sid) (a b : List Nat) (ha : a.length < 35184372088800) (hb : b.length < 35184372088800) (la : Lim a) (lb : Lim b) {Q : PV → Nat → List Nat → Prop}
    (hQ : Q (.int .i64 (sizeL a b)) n []) : PCall Tryz.prog 101 [.sl ia 1 (u32s a), .sl ib 1 (u32s b)] n Q := by
  refine of101 hn ?_
  by_cases h1 : a.length < b.length
  · simp [sizeL, h1] at hQ
    simpa [c101, h1] using hQ
  · by_cases h2 : b.length < a.length
    · simp [sizeL, h1, h2] at hQ
      simpa [c101, h1, h2] using hQ
    · have h3 : a.length = b.length := by omega
      simp [sizeL, h1, h2] at hQ
      simp (disch := omega) [c101, h1, h2]
      refine GO_loopN (sizeI n ia ib a b) a.length ⟨by omega, ?_, ?_⟩ ?_
      · simp [At]
      · rw [List.drop_eq_nil_of_le (by omega), List.drop_eq_nil_of_le (by omega)]
      · rintro k s ⟨hk, ⟨e1, e2, e3, e4, e5⟩, hd⟩
        simp at e5
        obtain ⟨e5, e6, e7⟩ := e5
        cases k with
        | zero =>
          have : a = b := by simpa using hd
          subst this
          simp at hQ e7
          simpa [c101L0, c101R0, e1, e2, e3, e4, e5, e6, e7] using hQ
        | succ j =>
          have hja : j < a.length := by omega
          have hjb : j < b.length := by omega
          have e7 : s.slots 5 = .int .i64 (j : Int) := by rw [e7]; congr 1; omega
          rcases Nat.lt_trichotomy a[j] b[j] with hx | hx | hx
          · have hlt := val_lt_top la hja hjb hd hx
            have hne : ¬ a[j] = b[j] := by omega
            simp [hlt] at hQ
            simpa (disch := omega) [c101L0, c101R0, e1, e2, e3, e4, e5, e6, e7, hja, hjb, hx, hne] using hQ
          · simp (disch := omega) [c101L0, c101R0, e1, e2, e3, e4, e5, e6, e7, hja, hjb, hx]
            refine ⟨j, by omega, by omega, by simp [At, e1, e2, e3, e4, e5, e6, e7], ?_⟩
            rw [List.drop_eq_getElem_cons hja, List.drop_eq_getElem_cons hjb, hx, hd]
          · have hlt := val_lt_top lb hjb hja hd.symm hx
            have hne : ¬ a[j] = b[j] := by omega
            have hnl : ¬ a[j] < b[j] := by omega
            have hnv : ¬ val a < val b := by omega
            simp [hlt, hnv] at hQ
            simpa (disch := omega) [c101L0, c101R0, e1, e2, e3, e4, e5, e6, e7, hja, hjb, hnl, hne] using hQ
end Go.Proofs.YtphndngifjgeoaaGreatDoor

/-! CtD: What the functions of layer 1 do, by value: sums and differences. -/
set_option linter.unusedVariables false
set_option linter.unusedSimpArgs false
namespace Go.Proofs.YtphndngifjgeoaaGreatDoor
open Go.Proofs

/-- What a number is worth. -/
def numW (neg : Bool) (l : List Nat) : Int := if neg then -(val l : Int) else val l
/-- An answer's parts, if there are not too many limbs. -/
def big (z : Int) : Bool := decide (512 < (dig z.natAbs).length)
def ansN (z : Int) : Bool := !big z && decide (z < 0)
def ansL (z : Int) : List Nat := if big z then [] else dig z.natAbs
def ansE (z : Int) : Int := if big z then 2 else 0

theorem of_call' {n : Nat} (hn : 0 < n) (neg : Bool) (i : Sid) (l : List Nat) (hl : l.length < 1152921504606846976) (ll : Lim l) (z : Int) (h : val l = z.natAbs) (hs : val l ≠ 0 → neg = decide (z < 0)) {Q : PV → Nat → List Nat → Prop}
    (hQ : ∀ i', i' = ⟨0, 0, 0⟩ ∨ i' = i → Q (.tup [W (ansN z) i' (ansL z), .int .i64 (ansE z)]) n []) : PCall Tryz.prog 68 [.bool neg, .sl i 1 (u32s l)] n Q := by
  refine of_call hn neg i l hl ?_
  rw [trim_dig ll, h]
  by_cases hb : 512 < (dig z.natAbs).length
  · rw [if_pos hb]
    have := hQ ⟨0, 0, 0⟩ (.inl rfl)
    simpa [ansN, ansL, ansE, big, hb, W] using this
  · rw [if_neg hb]
    by_cases hz : z = 0
    · have := hQ ⟨0, 0, 0⟩ (.inl rfl)
      subst hz
      simpa [ansN, ansL, ansE, big, dig_zero, WT, W] using this
    · have := hQ i (.inr rfl)
      have hne : ¬ dig z.natAbs = [] := fun e => hz (by have := dig_eq_nil.1 e; omega)
      rw [WT, if_neg hne, hs (by omega)]
      simpa [ansN, ansL, ansE, big, hb, W] using this
theorem Made_call {n : Nat} (hn : 0 < n) (neg : Bool) (i : Sid) (l : List Nat) (hl : l.length < 1152921504606846976) {Q : PV → Nat → List Nat → Prop}
    (hQ : Q (WT neg i (trimL l)) n []) : PCall Tryz.prog 50 [.bool neg, .sl i 1 (u32s l)] n Q := by
  refine of50 hn ?_
  simp [c50]
  refine GO_loopN (fun k s => k ≤ l.length ∧ trimL (l.take k) = trimL l ∧ At s 28 [[.bool false, .sl ⟨0, 0, 0⟩ 1 []]] n [(0, .bool neg), (1, .sl i 1 (u32s l)), (4, .box 0 0), (5, .int .i64 k)]) l.length ⟨by omega, by simp, by simp [At]⟩ ?_
  rintro k s ⟨hk, ht, ⟨e1, e2, e3, e4, e5⟩⟩
  simp at e5
  obtain ⟨e5, e6, e7, e8⟩ := e5
  cases k with
  | zero =>
    simp [trimL] at ht
    have ht : trimL l = [] := by first | exact ht | exact ht.symm
    simp [ht, WT, W] at hQ
    simpa [c50L0, c50R0, e1, e2, e3, e4, e5, e6, e7, e8] using hQ
  | succ j =>
    have hj : j < l.length := by omega
    have hw : IntKind.i64.wrap ((j : Int) + 1 - 1) = (j : Int) := by rw [wrap_i64_at _ (by omega)]; omega
    rw [List.take_succ_eq_append_getElem hj] at ht
    by_cases hx : l[j] = 0
    · rw [hx, trim_snoc_zero] at ht
      simp (disch := omega) [c50L0, c50R0, e1, e2, e3, e4, e5, e6, e7, e8, hj, hx, hw]
      exact ⟨j, by omega, by omega, ht, by simp [At, e1, e2, e3, e4, e5, e6, e7, e8]⟩
    · rw [trim_snoc hx] at ht
      have hne : ¬ trimL l = [] := by rw [← ht]; exact List.append_ne_nil_of_right_ne_nil _ (by simp)
      simp only [WT, if_neg hne] at hQ
      rw [← ht, ← List.take_succ_eq_append_getElem hj] at hQ
      have hz : sliceP 1 i (u32s l) 0 ((j : Int) + 1) = some (.sl i 1 (u32s (l.take (j + 1)))) := sliceP_zero_u32 i l (j + 1) (by omega)
      have hp : ((j : Int) + 1 == 0) = false := by rw [beq_eq_false_iff_ne]; omega
      simpa (disch := omega) [c50L0, c50R0, e1, e2, e3, e4, e5, e6, e7, e8, hj, hx, hw, hz, hp, W] using hQ
theorem Made_call' {n : Nat} (hn : 0 < n) (neg : Bool) (i : Sid) (l : List Nat) (hl : l.length < 1152921504606846976) (ll : Lim l) (z : Int) (h : val l = z.natAbs) (hs : val l ≠ 0 → neg = decide (z < 0)) {Q : PV → Nat → List Nat → Prop}
    (hQ : ∀ i', i' = ⟨0, 0, 0⟩ ∨ i' = i → Q (W (decide (z < 0)) i' (dig z.natAbs)) n []) : PCall Tryz.prog 50 [.bool neg, .sl i 1 (u32s l)] n Q := by
  refine Made_call hn neg i l hl ?_
  rw [trim_dig ll, h]
  by_cases hz : z = 0
  · have := hQ ⟨0, 0, 0⟩ (.inl rfl)
    subst hz
    simpa [dig_zero, WT, W] using this
  · have := hQ i (.inr rfl)
    have hne : ¬ dig z.natAbs = [] := fun e => hz (by have := dig_eq_nil.1 e; omega)
    rw [WT, if_neg hne, hs (by omega)]
    exact this

theorem numW_abs (neg : Bool) (l : List Nat) : (numW neg l).natAbs = val l := by unfold numW; split <;> omega
/-- Where a new answer's limbs may lie. -/
def newSid (n n' : Nat) (i : Sid) : Prop := i = ⟨0, 0, 0⟩ ∨ n ≤ i.f ∧ i.f < n'
theorem sizeL_neg {a b : List Nat} (la : Lim a) (lb : Lim b) (ta : topOk a) (tb : topOk b) : sizeL a b < 0 ↔ val a < val b := by
  unfold sizeL
  by_cases h1 : a.length < b.length
  · have := val_lt_len la tb h1; simp [h1, this]
  · by_cases h2 : b.length < a.length
    · have := val_lt_len lb ta h2; simp [h1, h2]; omega
    · simp only [h1, h2, if_false]
      by_cases h3 : val a < val b
      · simp [h3]
      · simp only [h3, if_false]; split <;> simp
theorem sizeL_len {a b : List Nat} (la : Lim a) (lb : Lim b) (ta : topOk a) (tb : topOk b) (h : val a ≤ val b) : a.length ≤ b.length := by
  by_cases h2 : b.length < a.length
  · have := val_lt_len lb ta h2; omega
  · omega
theorem add_call {n : Nat} (hn : 0 < n) (na nb : Bool) (ia ib : Sid) (a b : List Nat) (ha : a.length < 35184372088800) (hb : b.length < 35184372088800) (la : Lim a) (lb : Lim b) (ta : topOk a) (tb : topOk b) {Q : PV → Nat → List Nat → Prop}
    (hQ : ∀ (i : Sid) (n' : Nat), n ≤ n' → newSid n n' i → Q (.tup [W (ansN (numW na a + numW nb b)) i (ansL (numW na a + numW nb b)), .int .i64 (ansE (numW na a + numW nb b))]) n' []) : PCall Tryz.prog 97 [W na ia a, W nb ib b] n Q := by
  have fin : ∀ (i i' : Sid) (n' : Nat), n ≤ n' → n ≤ i.f → i.f < n' → i' = ⟨0, 0, 0⟩ ∨ i' = i → Q (.tup [W (ansN (numW na a + numW nb b)) i' (ansL (numW na a + numW nb b)), .int .i64 (ansE (numW na a + numW nb b))]) n' [] := by
    intro i i' n' h1 h2 h3 h
    refine hQ i' n' h1 ?_
    rcases h with h | h
    · exact .inl h
    · subst h; exact .inr ⟨h2, h3⟩
  generalize hz : numW na a + numW nb b = z at fin
  simp only [W] at fin
  refine of97 hn ?_
  by_cases hs : na = nb
  · subst hs
    simp (disch := omega) [c97]
    refine CallK.of (by simp) (up_call hn ia ib a b ha hb la lb fun i l n' h1 h2 h3 h4 h5 h6 => ?_)
    simp (disch := omega) []
    refine CallK.of (by simp) (of_call' (by omega) na i l (by omega) h4 z ?_ ?_ fun i' hi' => ?_)
    · rw [h5, ← hz]; unfold numW; split <;> omega
    · rw [h5, ← hz]; intro hv; unfold numW; cases na <;> simp <;> omega
    · simpa [h1] using fin i i' n' h1 h2 h3 hi'
  · have hs' : nb = !na := by cases na <;> cases nb <;> simp at hs ⊢
    have hx : (na == nb) = false := by simpa using hs
    simp (disch := omega) [c97, hx, hs]
    refine CallK.of (by simp) (size_call hn ia ib a b ha hb la lb ?_)
    have hsl := sizeL_neg la lb ta tb
    by_cases hc : val a < val b
    · have hc' := hsl.2 hc
      simp (disch := omega) [hc']
      refine CallK.of (by simp) (down_call hn ib ia b a hb ha lb la fun i l n' h1 h2 h3 h4 h5 h6 => ?_)
      have h5 := h5 (sizeL_len la lb ta tb (by omega)) (by omega)
      simp (disch := omega) []
      refine CallK.of (by simp) (of_call' (by omega) nb i l (by omega) h4 z ?_ ?_ fun i' hi' => ?_)
      · rw [h5, ← hz, hs']; unfold numW; cases na <;> simp <;> omega
      · rw [h5, ← hz, hs']; intro hv; unfold numW; cases na <;> simp <;> omega
      · simpa [h1] using fin i i' n' h1 h2 h3 hi'
    · have hc' : ¬ sizeL a b < 0 := fun e => hc (hsl.1 e)
      simp (disch := omega) [hc']
      refine CallK.of (by simp) (down_call hn ia ib a b ha hb la lb fun i l n' h1 h2 h3 h4 h5 h6 => ?_)
      have h5 := h5 (sizeL_len lb la tb ta (by omega)) (by omega)
      simp (disch := omega) []
      refine CallK.of (by simp) (of_call' (by omega) na i l (by omega) h4 z ?_ ?_ fun i' hi' => ?_)
      · rw [h5, ← hz, hs']; unfold numW; cases na <;> simp <;> omega
      · rw [h5, ← hz, hs']; intro hv; unfold numW; cases na <;> simp <;> omega
      · simpa [h1] using fin i i' n' h1 h2 h3 hi'

/-- What Add and Sub answer. -/
def addOk (na nb : Bool) (a b : List Nat) : Bool := rightW na a && rightW nb b
theorem rightW_top {neg : Bool} {l : List Nat} (h : rightW neg l = true) : topOk l ∧ l.length ≤ 512 ∧ (l = [] → neg = false) := by
  simp [rightW] at h
  exact ⟨h.2, h.1.1, fun e => by have := h.1.2; simp [e] at this; exact this⟩
theorem Add_call {n : Nat} (hn : 0 < n) (na nb : Bool) (ia ib : Sid) (a b : List Nat) (ha : a.length < 35184372088800) (hb : b.length < 35184372088800) (la : Lim a) (lb : Lim b) {Q : PV → Nat → List Nat → Prop}
    (h0 : (rightW na a && rightW nb b) = false → Q (.tup [W false ⟨0, 0, 0⟩ [], .int .i64 1]) n [])
    (hQ : (rightW na a && rightW nb b) = true → ∀ (i : Sid) (n' : Nat), n ≤ n' → newSid n n' i → Q (.tup [W (ansN (numW na a + numW nb b)) i (ansL (numW na a + numW nb b)), .int .i64 (ansE (numW na a + numW nb b))]) n' []) : PCall Tryz.prog 86 [W na ia a, W nb ib b] n Q := by
  refine of86 hn ?_
  simp (disch := omega) [c86]
  refine CallK.of (by simp) (two_call hn na nb ia ib a b (by omega) (by omega) ?_)
  by_cases hr : (rightW na a && rightW nb b) = true
  · have hQ := hQ hr
    simp only [Bool.and_eq_true] at hr
    simp (disch := omega) [hr]
    refine CallK.of (by simp) (add_call hn na nb ia ib a b ha hb la lb (rightW_top hr.1).1 (rightW_top hr.2).1 fun i n' h1 h2 => ?_)
    simp only [W] at hQ
    simpa [h1] using hQ i n' h1 h2
  · rw [Bool.not_eq_true] at hr
    have h0 := h0 hr
    simp only [W] at h0
    rw [hr]
    simpa using h0
theorem Sub_call {n : Nat} (hn : 0 < n) (na nb : Bool) (ia ib : Sid) (a b : List Nat) (ha : a.length < 35184372088800) (hb : b.length < 35184372088800) (la : Lim a) (lb : Lim b) {Q : PV → Nat → List Nat → Prop}
    (h0 : (rightW na a && rightW nb b) = false → Q (.tup [W false ⟨0, 0, 0⟩ [], .int .i64 1]) n [])
    (hQ : (rightW na a && rightW nb b) = true → ∀ (i : Sid) (n' : Nat), n ≤ n' → newSid n n' i → Q (.tup [W (ansN (numW na a - numW nb b)) i (ansL (numW na a - numW nb b)), .int .i64 (ansE (numW na a - numW nb b))]) n' []) : PCall Tryz.prog 98 [W na ia a, W nb ib b] n Q := by
  refine of98 hn ?_
  simp (disch := omega) [c98]
  refine CallK.of (by simp) (two_call hn na nb ia ib a b (by omega) (by omega) ?_)
  by_cases hr : (rightW na a && rightW nb b) = true
  · have hQ := hQ hr
    simp only [Bool.and_eq_true] at hr
    have hnum : numW na a - numW nb b = numW na a + numW (!nb && decide (0 < b.length)) b := by
      have : numW (!nb && decide (0 < b.length)) b = - numW nb b := by
        by_cases hb0 : b = []
        · subst hb0; cases nb <;> simp [numW]
        · have : 0 < b.length := List.length_pos_iff.2 hb0
          cases nb <;> simp [numW, this]
      omega
    rw [hnum] at hQ
    simp only [W] at hQ
    cases nb with
    | true =>
      simp at hQ
      simp (disch := omega) [hr]
      refine CallK.of (by simp) (add_call hn na false ia ib a b ha hb la lb (rightW_top hr.1).1 (rightW_top hr.2).1 fun i n' h1 h2 => ?_)
      simpa [h1] using hQ i n' h1 h2
    | false =>
      simp at hQ
      simp (disch := omega) [hr]
      refine CallK.of (by simp) (add_call hn na (decide (0 < b.length)) ia ib a b ha hb la lb (rightW_top hr.1).1 (rightW_top hr.2).1 fun i n' h1 h2 => ?_)
      simpa [h1] using hQ i n' h1 h2
  · rw [Bool.not_eq_true] at hr
    have h0 := h0 hr
    simp only [W] at h0
    rw [hr]
    simpa using h0
end Go.Proofs.YtphndngifjgeoaaGreatDoor

/-! CtE: What the functions of layer 1 do, by value: the reference's sums and differences. -/
set_option linter.unusedVariables false
set_option linter.unusedSimpArgs false
namespace Go.Proofs.YtphndngifjgeoaaGreatDoor
open Go.Proofs

theorem limb_call {n : Nat} (hn : 0 < n) (i : Sid) (l : List Nat) (hl : l.length < 35184372088800) (k : Nat) (ll : Lim l) {Q : PV → Nat → List Nat → Prop}
    (hQ : Q (.int .u64 (l.getD k 0 : Nat)) n []) : PCall Tryz.prog 76 [.sl i 1 (u32s l), .int .i64 k] n Q := by
  refine of76 hn ?_
  by_cases hk : k < l.length
  · have hx := ll.get hk
    simp [List.getD, hk] at hQ
    simpa (disch := omega) [c76, hk] using hQ
  · simp [List.getD, hk] at hQ
    simpa (disch := omega) [c76, hk] using hQ

def plusI (n : Nat) (ia ib : Sid) (a b : List Nat) (k : Nat) (s : St) : Prop :=
  ∃ (i c g nx : Nat) (out : List Nat), i + k = max a.length b.length + 1 ∧ At s 37 [] nx [(0, .sl ia 1 (u32s a)), (1, .sl ib 1 (u32s b)), (5, .sl ⟨n, g, 0⟩ 1 (u32s out)), (6, .int .u64 c), (7, .int .i64 i)] ∧ tipOf s.tips g n = some i ∧ 0 < g ∧ g < nx ∧ n < nx ∧ out.length = i ∧ Lim out ∧ c ≤ 1 ∧ val out + 4294967296 ^ i * c = val (a.take i) + val (b.take i)
theorem plus_call {n : Nat} (hn : 0 < n) (ia ib : Sid) (a b : List Nat) (ha : a.length < 35184372088800) (hb : b.length < 35184372088800) (la : Lim a) (lb : Lim b) {Q : PV → Nat → List Nat → Prop}
    (hQ : ∀ (i : Sid) (l : List Nat) (n' : Nat), n ≤ n' → n ≤ i.f → i.f < n' → Lim l → val l = val a + val b → l.length = max a.length b.length + 1 → Q (.sl i 1 (u32s l)) n' []) : PCall Tryz.prog 77 [.sl ia 1 (u32s a), .sl ib 1 (u32s b)] n Q := by
  refine of77 hn ?_
  simp (disch := omega) [c77]
  refine GO_loopN (plusI n ia ib a b) (max a.length b.length + 1) ⟨0, 0, n, n + 1, [], by omega, by simp [At], by simp, by omega, by omega, by omega, rfl, .nil, by omega, by simp⟩ ?_
  rintro k s ⟨i, c, g, nx, out, hi, ⟨e1, e2, e3, e4, e5⟩, ht, hg, hgx, hnx, hol, lo, hc, hv⟩
  simp at e5
  obtain ⟨e5, e6, e7, e8, e9⟩ := e5
  by_cases hk : i ≤ max a.length b.length
  · have hx := la.getD i
    have hy := lb.getD i
    have hst : (a.getD i 0 + b.getD i 0 + c) % 4294967296 + 4294967296 * ((a.getD i 0 + b.getD i 0 + c) / 4294967296) = a.getD i 0 + b.getD i 0 + c := by omega
    have hd : (a.getD i 0 + b.getD i 0 + c) / 4294967296 ≤ 1 := by omega
    have ht1 : (a.getD i 0 + b.getD i 0 + c) % 4294967296 < 4294967296 := by omega
    obtain ⟨t, ht0⟩ : ∃ t, t = (a.getD i 0 + b.getD i 0 + c) % 4294967296 := ⟨_, rfl⟩
    obtain ⟨d, hd0⟩ : ∃ d, d = (a.getD i 0 + b.getD i 0 + c) / 4294967296 := ⟨_, rfl⟩
    rw [← ht0, ← hd0] at hst
    rw [← hd0] at hd
    rw [← ht0] at ht1
    generalize hxx : a.getD i 0 = x at *
    generalize hyy : b.getD i 0 = y at *
    have hrem : ((x : Int) + y + c).tmod 4294967296 = (t : Int) := by rw [Int.tmod_eq_emod_of_nonneg (by omega)]; omega
    have hquo : ((x : Int) + y + c).tdiv 4294967296 = (d : Int) := by rw [Int.tdiv_eq_ediv_of_nonneg (by omega)]; omega
    simp (disch := omega) [c77L0, e1, e2, e3, e4, e5, e6, e7, e8, e9, hk]
    refine CallK.of (by simp) (limb_call (by omega) ia a ha i la ?_)
    rw [hxx]
    simp (disch := omega) [e1, e2, e3, e4, e5, e6, e7, e8, e9, hk]
    refine CallK.of (by simp) (limb_call (by omega) ib b hb i lb ?_)
    rw [hyy]
    simp (disch := omega) [e1, e2, e3, e4, e5, e6, e7, e8, e9, hk, hrem, hquo, ht, hol]
    refine ⟨by omega, k - 1, by omega, i + 1, d, nx + 1, nx + 2, out ++ [t], by omega, ?_, ?_, by omega, by omega, by omega, by simp [hol], lo.append (.one ht1), hd, ?_⟩
    · simp [At, e1, e2, e3, e4, e5, e6, e7, e8, e9]
    · simp
    · rw [val_append, val_take_succ, val_take_succ, hol, Nat.pow_succ, hxx, hyy]
      simpa using sum_step hst hv
  · have hk2 : ¬ (i ≤ a.length ∨ i ≤ b.length) := by omega
    simp (disch := omega) [c77L0, c77R0, e1, e2, e3, e4, e5, e6, e7, e8, e9, hk]
    rw [List.take_of_length_le (by omega), List.take_of_length_le (by omega)] at hv
    have hc0 : c = 0 := by
      have h1 := val_lt la
      have h2 := val_lt lb
      have h3 : 4294967296 ^ a.length ≤ 4294967296 ^ max a.length b.length := Nat.pow_le_pow_right (by omega) (by omega)
      have h4 : 4294967296 ^ b.length ≤ 4294967296 ^ max a.length b.length := Nat.pow_le_pow_right (by omega) (by omega)
      have h5 : i = max a.length b.length + 1 := by omega
      rw [h5, Nat.pow_succ] at hv
      cases c with
      | zero => rfl
      | succ c =>
        exfalso
        have : 4294967296 ^ max a.length b.length * 4294967296 * 1 ≤ 4294967296 ^ max a.length b.length * 4294967296 * (c + 1) := Nat.mul_le_mul_left _ (by omega)
        omega
    subst hc0
    exact ⟨by omega, hQ _ _ _ (by omega) (by simp) (by simp; omega) lo (by omega) (by omega)⟩
end Go.Proofs.YtphndngifjgeoaaGreatDoor

/-! CtF: What the functions of layer 1 do, by value: the reference's sums and differences, part two. -/
set_option linter.unusedVariables false
set_option linter.unusedSimpArgs false
namespace Go.Proofs.YtphndngifjgeoaaGreatDoor
open Go.Proofs

def minusI (n : Nat) (ia ib : Sid) (a b : List Nat) (k : Nat) (s : St) : Prop :=
  ∃ (i c g nx : Nat) (out : List Nat), i + k = a.length ∧ At s 36 [] nx [(0, .sl ia 1 (u32s a)), (1, .sl ib 1 (u32s b)), (5, .sl ⟨n, g, 0⟩ 1 (u32s out)), (6, .int .u64 c), (7, .int .i64 i)] ∧ tipOf s.tips g n = some i ∧ 0 < g ∧ g < nx ∧ n < nx ∧ out.length = i ∧ Lim out ∧ c ≤ 1 ∧ val out + val (b.take i) = val (a.take i) + 4294967296 ^ i * c
theorem minus_call {n : Nat} (hn : 0 < n) (ia ib : Sid) (a b : List Nat) (ha : a.length < 35184372088800) (hb : b.length < 35184372088800) (la : Lim a) (lb : Lim b) {Q : PV → Nat → List Nat → Prop}
    (hQ : ∀ (i : Sid) (l : List Nat) (n' : Nat), n ≤ n' → n ≤ i.f → i.f < n' → Lim l → (val (b.take a.length) ≤ val a → val l = val a - val (b.take a.length)) → l.length = a.length → Q (.sl i 1 (u32s l)) n' []) : PCall Tryz.prog 79 [.sl ia 1 (u32s a), .sl ib 1 (u32s b)] n Q := by
  refine of79 hn ?_
  simp (disch := omega) [c79]
  refine GO_loopN (minusI n ia ib a b) a.length ⟨0, 0, n, n + 1, [], by omega, by simp [At], by simp, by omega, by omega, by omega, rfl, .nil, by omega, by simp⟩ ?_
  rintro k s ⟨i, c, g, nx, out, hi, ⟨e1, e2, e3, e4, e5⟩, ht, hg, hgx, hnx, hol, lo, hc, hv⟩
  simp at e5
  obtain ⟨e5, e6, e7, e8, e9⟩ := e5
  by_cases hk : i < a.length
  · have hx := la.getD i
    have hy := lb.getD i
    obtain ⟨t, ht0⟩ : ∃ t, t = (4294967296 + a.getD i 0 - b.getD i 0 - c) % 4294967296 := ⟨_, rfl⟩
    obtain ⟨q, hq0⟩ : ∃ q, q = (4294967296 + a.getD i 0 - b.getD i 0 - c) / 4294967296 := ⟨_, rfl⟩
    obtain ⟨d, hd0⟩ : ∃ d, d = 1 - q := ⟨_, rfl⟩
    have hst : t + b.getD i 0 + c = a.getD i 0 + 4294967296 * d := by omega
    have hd : d ≤ 1 := by omega
    have ht1 : t < 4294967296 := by omega
    generalize hxx : a.getD i 0 = x at *
    generalize hyy : b.getD i 0 = y at *
    have hrem : (4294967296 + (x : Int) - y - c).tmod 4294967296 = (t : Int) := by rw [Int.tmod_eq_emod_of_nonneg (by omega)]; omega
    have hquo : (4294967296 + (x : Int) - y - c).tdiv 4294967296 = (q : Int) := by rw [Int.tdiv_eq_ediv_of_nonneg (by omega)]; omega
    have hsub : IntKind.u64.wrap (1 - (q : Int)) = (d : Int) := by rw [wrap_u64_at _ (by omega)]; omega
    simp (disch := omega) [c79L0, e1, e2, e3, e4, e5, e6, e7, e8, e9, hk]
    refine CallK.of (by simp) (limb_call (by omega) ia a ha i la ?_)
    rw [hxx]
    simp (disch := omega) [e1, e2, e3, e4, e5, e6, e7, e8, e9, hk]
    refine CallK.of (by simp) (limb_call (by omega) ib b hb i lb ?_)
    rw [hyy]
    simp (disch := omega) [e1, e2, e3, e4, e5, e6, e7, e8, e9, hk, hrem, hquo, hsub, ht, hol]
    refine ⟨by omega, k - 1, by omega, i + 1, d, nx + 1, nx + 2, out ++ [t], by omega, ?_, ?_, by omega, by omega, by omega, by simp [hol], lo.append (.one ht1), hd, ?_⟩
    · simp [At, e1, e2, e3, e4, e5, e6, e7, e8, e9]
    · simp
    · rw [val_append, val_take_succ, val_take_succ, hol, Nat.pow_succ, hxx, hyy]
      simpa using diff_step hst hv
  · simp (disch := omega) [c79L0, c79R0, e1, e2, e3, e4, e5, e6, e7, e8, e9, hk]
    have hia : i = a.length := by omega
    rw [List.take_of_length_le (l := a) (by omega), hia] at hv
    refine ⟨by omega, hQ _ _ _ (by omega) (by simp) (by simp; omega) lo (fun hv2 => ?_) (by omega)⟩
    have hb := val_lt lo
    rw [show out.length = a.length by omega] at hb
    cases c with
    | zero => omega
    | succ c => rw [Nat.mul_add] at hv; omega

theorem val_lt_topD {a b : List Nat} {j : Nat} (la : Lim a) (hd : val (a.drop (j + 1)) = val (b.drop (j + 1))) (hx : a.getD j 0 < b.getD j 0) : val a < val b := by
  have key : ∀ l : List Nat, val (l.drop j) = l.getD j 0 + 4294967296 * val (l.drop (j + 1)) := by
    intro l
    by_cases h : j < l.length
    · rw [List.drop_eq_getElem_cons h, val_cons]; simp [List.getD, h]
    · rw [List.drop_eq_nil_of_le (by omega), List.drop_eq_nil_of_le (by omega)]; simp [List.getD, h]
  rw [val_split a j, val_split b j, key, key, hd]
  refine val_lt_of ?_ (by omega)
  have h1 := val_lt (la.take j)
  have h2 : 4294967296 ^ (a.take j).length ≤ 4294967296 ^ j := Nat.pow_le_pow_right (by omega) (by rw [List.length_take]; omega)
  omega
/-- Which of limbs are worth more. -/
def moreL (a b : List Nat) : Int := if val a < val b then -1 else if val b < val a then 1 else 0
theorem More_call {n : Nat} (hn : 0 < n) (ia ib : Sid) (a b : List Nat) (ha : a.length < 35184372088800) (hb : b.length < 35184372088800) (la : Lim a) (lb : Lim b) {Q : PV → Nat → List Nat → Prop}
    (hQ : Q (.int .i64 (moreL a b)) n []) : PCall Tryz.prog 78 [.sl ia 1 (u32s a), .sl ib 1 (u32s b)] n Q := by
  refine of78 hn ?_
  simp (disch := omega) [c78]
  refine GO_loopN (fun k s => k ≤ max a.length b.length + 1 ∧ At s 29 [] n [(0, .sl ia 1 (u32s a)), (1, .sl ib 1 (u32s b)), (5, .int .i64 ((k : Int) - 1))] ∧ val (a.drop k) = val (b.drop k)) (max a.length b.length + 1) ⟨by omega, ?_, ?_⟩ ?_
  · simp [At]
  · rw [List.drop_eq_nil_of_le (by omega), List.drop_eq_nil_of_le (by omega)]
  · rintro k s ⟨hk, ⟨e1, e2, e3, e4, e5⟩, hd⟩
    simp at e5
    obtain ⟨e5, e6, e7⟩ := e5
    cases k with
    | zero =>
      have : val a = val b := by simpa using hd
      simp [moreL, this] at hQ
      simp at e7
      simpa [c78L0, c78R0, e1, e2, e3, e4, e5, e6, e7] using hQ
    | succ j =>
      have e7 : s.slots 5 = .int .i64 (j : Int) := by rw [e7]; congr 1; omega
      rcases Nat.lt_trichotomy (a.getD j 0) (b.getD j 0) with hx | hx | hx
      · have hlt := val_lt_topD la hd hx
        simp [moreL, hlt] at hQ
        simp (disch := omega) [c78L0, c78R0, e1, e2, e3, e4, e5, e6, e7]
        refine CallK.of (by simp) (limb_call (by omega) ia a ha j la ?_)
        generalize a.getD j 0 = x at *
        simp (disch := omega) [e1, e2, e3, e4, e5, e6, e7]
        refine CallK.of (by simp) (limb_call (by omega) ib b hb j lb ?_)
        generalize b.getD j 0 = y at *
        simpa (disch := omega) [e1, e2, e3, e4, e5, e6, e7, hx] using hQ
      · obtain ⟨y, hyy⟩ : ∃ y, b.getD j 0 = y := ⟨_, rfl⟩
        have hyb := lb.getD j
        rw [hyy] at hx hyb
        simp (disch := omega) [c78L0, c78R0, e1, e2, e3, e4, e5, e6, e7]
        refine CallK.of (by simp) (limb_call (by omega) ia a ha j la ?_)
        rw [hx]
        simp (disch := omega) [e1, e2, e3, e4, e5, e6, e7]
        refine CallK.of (by simp) (limb_call (by omega) ib b hb j lb ?_)
        rw [hyy]
        simp (disch := omega) [e1, e2, e3, e4, e5, e6, e7]
        refine CallK.of (by simp) (limb_call (by omega) ia a ha j la ?_)
        rw [hx]
        simp (disch := omega) [e1, e2, e3, e4, e5, e6, e7]
        refine CallK.of (by simp) (limb_call (by omega) ib b hb j lb ?_)
        rw [hyy]
        simp (disch := omega) [e1, e2, e3, e4, e5, e6, e7]
        refine ⟨j, by omega, by omega, by simp [At, e1, e2, e3, e4, e5, e6, e7], ?_⟩
        have key : ∀ l : List Nat, val (l.drop j) = l.getD j 0 + 4294967296 * val (l.drop (j + 1)) := by
          intro l
          by_cases h : j < l.length
          · rw [List.drop_eq_getElem_cons h, val_cons]; simp [List.getD, h]
          · rw [List.drop_eq_nil_of_le (by omega), List.drop_eq_nil_of_le (by omega)]; simp [List.getD, h]
        rw [key, key, hx, hyy, hd]
      · have hlt := val_lt_topD lb hd.symm hx
        have hnl : ¬ val a < val b := by omega
        simp [moreL, hlt, hnl] at hQ
        simp (disch := omega) [c78L0, c78R0, e1, e2, e3, e4, e5, e6, e7]
        refine CallK.of (by simp) (limb_call (by omega) ia a ha j la ?_)
        generalize hxx : a.getD j 0 = x at *
        simp (disch := omega) [e1, e2, e3, e4, e5, e6, e7]
        refine CallK.of (by simp) (limb_call (by omega) ib b hb j lb ?_)
        generalize hyy : b.getD j 0 = y at *
        have hno : ¬ x < y := by omega
        simp (disch := omega) [e1, e2, e3, e4, e5, e6, e7, hno]
        refine CallK.of (by simp) (limb_call (by omega) ia a ha j la ?_)
        rw [hxx]
        simp (disch := omega) [e1, e2, e3, e4, e5, e6, e7]
        refine CallK.of (by simp) (limb_call (by omega) ib b hb j lb ?_)
        rw [hyy]
        simpa (disch := omega) [e1, e2, e3, e4, e5, e6, e7, hx] using hQ
end Go.Proofs.YtphndngifjgeoaaGreatDoor

/-! CtG: What the functions of layer 1 do, by value: the reference's sums and differences, part three, and the law's own helpers. -/
set_option linter.unusedVariables false
set_option linter.unusedSimpArgs false
namespace Go.Proofs.YtphndngifjgeoaaGreatDoor
open Go.Proofs

theorem val_take_le {a b : List Nat} (la : Lim a) (h : val b ≤ val a) : val (b.take a.length) = val b := by
  have h1 := val_split b a.length
  have h2 := val_lt la
  generalize val (b.drop a.length) = d at h1
  cases d with
  | zero => omega
  | succ d => rw [Nat.mul_add] at h1; omega
theorem moreL_neg (a b : List Nat) : moreL a b < 0 ↔ val a < val b := by
  unfold moreL
  by_cases h : val a < val b
  · simp [h]
  · simp only [h, if_false]; split <;> simp
theorem numW_dig (z : Int) : numW (decide (z < 0)) (dig z.natAbs) = z := by
  unfold numW
  rw [val_dig]
  by_cases h : z < 0 <;> simp [h] <;> omega

theorem refAdd_call {n : Nat} (hn : 0 < n) (na nb : Bool) (ia ib : Sid) (a b : List Nat) (ha : a.length < 35184372088800) (hb : b.length < 35184372088800) (la : Lim a) (lb : Lim b) (z : Int) (hz : numW na a + numW nb b = z) {Q : PV → Nat → List Nat → Prop}
    (hQ : ∀ (i : Sid) (n' : Nat), n ≤ n' → newSid n n' i → Q (W (decide (z < 0)) i (dig z.natAbs)) n' []) : PCall Tryz.prog 54 [W na ia a, W nb ib b] n Q := by
  have fin : ∀ (i i' : Sid) (n' : Nat), n ≤ n' → n ≤ i.f → i.f < n' → i' = ⟨0, 0, 0⟩ ∨ i' = i → Q (W (decide (z < 0)) i' (dig z.natAbs)) n' [] := by
    intro i i' n' h1 h2 h3 h
    refine hQ i' n' h1 ?_
    rcases h with h | h
    · exact .inl h
    · subst h; exact .inr ⟨h2, h3⟩
  simp only [W] at fin
  refine of54 hn ?_
  by_cases hs : na = nb
  · subst hs
    simp (disch := omega) [c54]
    refine CallK.of (by simp) (plus_call hn ia ib a b ha hb la lb fun i l n' h1 h2 h3 h4 h5 h6 => ?_)
    simp (disch := omega) []
    refine CallK.of (by simp) (Made_call' (by omega) na i l (by omega) h4 z ?_ ?_ fun i' hi' => ?_)
    · rw [h5, ← hz]; unfold numW; split <;> omega
    · rw [h5, ← hz]; intro hv; unfold numW; cases na <;> simp <;> omega
    · simpa [h1] using fin i i' n' h1 h2 h3 hi'
  · have hs' : nb = !na := by cases na <;> cases nb <;> simp at hs ⊢
    have hx : (na == nb) = false := by simpa using hs
    simp (disch := omega) [c54, hx, hs]
    refine CallK.of (by simp) (More_call hn ia ib a b ha hb la lb ?_)
    have hsl := moreL_neg a b
    by_cases hc : val a < val b
    · have hc' := hsl.2 hc
      simp (disch := omega) [hc']
      refine CallK.of (by simp) (minus_call hn ib ia b a hb ha lb la fun i l n' h1 h2 h3 h4 h5 h6 => ?_)
      rw [val_take_le lb (by omega)] at h5
      have h5 := h5 (by omega)
      simp (disch := omega) []
      refine CallK.of (by simp) (Made_call' (by omega) nb i l (by omega) h4 z ?_ ?_ fun i' hi' => ?_)
      · rw [h5, ← hz, hs']; unfold numW; cases na <;> simp <;> omega
      · rw [h5, ← hz, hs']; intro hv; unfold numW; cases na <;> simp <;> omega
      · simpa [h1] using fin i i' n' h1 h2 h3 hi'
    · have hc' : ¬ moreL a b < 0 := fun e => hc (hsl.1 e)
      simp (disch := omega) [hc']
      refine CallK.of (by simp) (minus_call hn ia ib a b ha hb la lb fun i l n' h1 h2 h3 h4 h5 h6 => ?_)
      rw [val_take_le la (by omega)] at h5
      have h5 := h5 (by omega)
      simp (disch := omega) []
      refine CallK.of (by simp) (Made_call' (by omega) na i l (by omega) h4 z ?_ ?_ fun i' hi' => ?_)
      · rw [h5, ← hz, hs']; unfold numW; cases na <;> simp <;> omega
      · rw [h5, ← hz, hs']; intro hv; unfold numW; cases na <;> simp <;> omega
      · simpa [h1] using fin i i' n' h1 h2 h3 hi'

theorem Neg_call {n : Nat} (hn : 0 < n) (nb : Bool) (ib : Sid) (b : List Nat) (hb : b.length < 35184372088800) (lb : Lim b) (z : Int) (hz : z = - numW nb b) {Q : PV → Nat → List Nat → Prop}
    (hQ : ∀ i', i' = ⟨0, 0, 0⟩ ∨ i' = ib → Q (W (decide (z < 0)) i' (dig z.natAbs)) n []) : PCall Tryz.prog 75 [W nb ib b] n Q := by
  simp only [W] at hQ
  refine of75 hn ?_
  simp (disch := omega) [c75]
  refine CallK.of (by simp) (Made_call' hn (!nb) ib b (by omega) lb z ?_ ?_ fun i' hi' => ?_)
  · rw [hz]; unfold numW; cases nb <;> simp
  · rw [hz]; intro hv; unfold numW; cases nb <;> simp <;> omega
  · simpa using hQ i' hi'

theorem unPV_xor_ex (y : Int) : ∃ x : Nat, unPV .xor (.int .u32 y) = some (.int .u32 (x : Int)) :=
  ⟨_, by rw [unPV_xor, wrap_u32_nat _ (BitVec.isLt _)]⟩
/-- Before a round of spoil's loop. -/
def spoilI (n : Nat) (neg : Bool) (i : Sid) (l : List Nat) (k : Nat) (s : St) : Prop :=
  ∃ (j : Nat) (m : List Nat), j + k = l.length ∧ m.length = l.length ∧ s.nt = 20 ∧ s.boxes = [[.bool neg, .sl i 1 (u32s m)]] ∧ s.next = n ∧ s.n0 = n ∧ s.D = (if j = 0 then [] else [i.f]) ∧ s.slots 1 = .box 0 0 ∧ s.slots 2 = .int .i64 j
/-- Is an answer the document's? -/
def toldB (na : Bool) (a : List Nat) (e : Int) (nw : Bool) (w : List Nat) (f : Int) : Bool :=
  if f = 0 ∧ ¬ 512 < w.length then decide (e = 0) && (na == nw && decide (a = w))
  else decide (e = (if f = 0 then 2 else f)) && (!na && decide (a = []))
theorem Of_call {n : Nat} (hn : 0 < n) (m : Int) (hm : -9223372036854775808 ≤ m) (hm' : m < 9223372036854775808) {Q : PV → Nat → List Nat → Prop}
    (hQ : ∀ (i : Sid) (n' : Nat), n ≤ n' → newSid n n' i → Q (W (decide (m < 0)) i (dig m.natAbs)) n' []) : PCall Tryz.prog 58 [.int .i64 m] n Q := by
  simp only [W] at hQ
  refine of58 hn ?_
  obtain ⟨lo, hlo0⟩ : ∃ lo, lo = m.natAbs % 4294967296 := ⟨_, rfl⟩
  obtain ⟨hi, hhi0⟩ : ∃ hi, hi = m.natAbs / 4294967296 := ⟨_, rfl⟩
  obtain ⟨v, hv0⟩ : ∃ v, v = m.natAbs := ⟨_, rfl⟩
  have hlim : Lim [lo, hi] := by intro x hx; simp at hx; omega
  have hval : val [lo, hi] = m.natAbs := by simp; omega
  have hbig : big m = false := by
    have := length_dig hlim
    rw [hval] at this
    simp [big]; simp at this; omega
  have hlo : IntKind.u32.wrap (v : Int) = (lo : Int) := by rw [wrap_u32_eq]; omega
  have hhi : IntKind.u32.wrap ((v : Int) / 4294967296) = (hi : Int) := by rw [wrap_u32_eq]; omega
  have hof : ∀ s : Sid, s.f = n → ∀ i', i' = ⟨0, 0, 0⟩ ∨ i' = s → Q (W (ansN m) i' (ansL m)) (n + 1) [] := by
    intro s hs i' hi'
    simp only [ansN, ansL, hbig, W]
    refine hQ i' (n + 1) (by omega) ?_
    rcases hi' with h | h
    · exact .inl h
    · subst h; exact .inr ⟨by omega, by omega⟩
  simp only [W] at hof
  by_cases hs : m < 0
  · have hv : IntKind.u64.wrap (0 - IntKind.u64.wrap m) = (v : Int) := by rw [wrap_u64_eq, wrap_u64_eq]; omega
    simp (disch := omega) [-wrap_u64_at, -wrap_u32_at, -Int.zero_sub, c58, hs, hv, hlo, hhi]
    refine CallK.of (by simp) (of_call' (by omega) true ⟨n, n, 0⟩ [lo, hi] (by simp) hlim m (by omega) (by simp [hs]) fun i' hi' => ?_)
    simpa [ansE, hbig] using hof ⟨n, n, 0⟩ rfl i' hi'
  · have hv : IntKind.u64.wrap m = (v : Int) := by rw [wrap_u64_eq]; omega
    simp (disch := omega) [-wrap_u64_at, -wrap_u32_at, c58, hs, hv, hlo, hhi]
    refine CallK.of (by simp) (of_call' (by omega) false ⟨n, n, 0⟩ [lo, hi] (by simp) hlim m (by omega) (by simp [hs]) fun i' hi' => ?_)
    simpa [ansE, hbig] using hof ⟨n, n, 0⟩ rfl i' hi'

theorem dig_one {v : Nat} (h : v ≠ 0) (h2 : v < 4294967296) : dig v = [v] := by
  rw [dig_pos h, Nat.mod_eq_of_lt h2, Nat.div_eq_of_lt h2, dig_zero]
end Go.Proofs.YtphndngifjgeoaaGreatDoor

/-! CtP: What answers there are, and what is told of them. -/
set_option linter.unusedVariables false
set_option linter.unusedSimpArgs false
namespace Go.Proofs.YtphndngifjgeoaaGreatDoor
open Go.Proofs

@[simp] theorem poison_sl1 (i : Sid) (f z : Nat) (l : List Nat) (h : ¬ i.f = f) : (PV.sl i z (u32s l)).poison [f] = .sl i z (u32s l) := by simp [PV.poison, h]
@[simp] theorem poison_W1 (neg : Bool) (i : Sid) (f : Nat) (l : List Nat) (h : ¬ i.f = f) : (W neg i l).poison [f] = W neg i l := by simp [W, h]
/-- What an answer is: the number z's parts if b, else none. -/
def ansIs (b : Bool) (z : Int) (an : Bool) (al : List Nat) (e : Int) : Prop :=
  an = (b && ansN z) ∧ al = (if b then ansL z else []) ∧ e = (if b then ansE z else 1)
theorem ansIs_told {b : Bool} {z : Int} {an : Bool} {al : List Nat} {e : Int} (h : ansIs b z an al e) : toldB an al e (decide (z < 0)) (dig z.natAbs) (if b then 0 else 1) = true := by
  obtain ⟨rfl, rfl, rfl⟩ := h
  cases b with
  | false => simp [toldB]
  | true =>
    by_cases hb : 512 < (dig z.natAbs).length
    · simp [toldB, ansN, ansL, ansE, big, hb]
    · simp [toldB, ansN, ansL, ansE, big, hb]
theorem ansIs_len {b : Bool} {z : Int} {an : Bool} {al : List Nat} {e : Int} (h : ansIs b z an al e) : al.length ≤ 512 := by
  obtain ⟨rfl, rfl, rfl⟩ := h
  cases b with
  | false => simp
  | true => simp only [if_true, ansL, big]; by_cases hb : 512 < (dig z.natAbs).length <;> simp [hb]; omega
theorem ansIs_lim {b : Bool} {z : Int} {an : Bool} {al : List Nat} {e : Int} (h : ansIs b z an al e) : Lim al := by
  obtain ⟨rfl, rfl, rfl⟩ := h
  cases b with
  | false => simp; exact .nil
  | true => simp only [if_true, ansL, big]; by_cases hb : 512 < (dig z.natAbs).length <;> simp [hb]; exact .nil; exact Lim.dig _

theorem Add_any {n : Nat} (hn : 0 < n) (na nb : Bool) (ia ib : Sid) (a b : List Nat) (ha : a.length < 35184372088800) (hb : b.length < 35184372088800) (la : Lim a) (lb : Lim b) {Q : PV → Nat → List Nat → Prop}
    (hQ : ∀ (i : Sid) (n' : Nat) (an : Bool) (al : List Nat) (e : Int), n ≤ n' → newSid n n' i → ansIs (rightW na a && rightW nb b) (numW na a + numW nb b) an al e → Q (.tup [W an i al, .int .i64 e]) n' []) : PCall Tryz.prog 86 [W na ia a, W nb ib b] n Q :=
  Add_call hn na nb ia ib a b ha hb la lb (fun h => hQ _ _ _ _ _ (by omega) (.inl rfl) (by simp [ansIs, h])) (fun h i n' h1 h2 => hQ _ _ _ _ _ h1 h2 (by simp [ansIs, h]))
theorem Sub_any {n : Nat} (hn : 0 < n) (na nb : Bool) (ia ib : Sid) (a b : List Nat) (ha : a.length < 35184372088800) (hb : b.length < 35184372088800) (la : Lim a) (lb : Lim b) {Q : PV → Nat → List Nat → Prop}
    (hQ : ∀ (i : Sid) (n' : Nat) (an : Bool) (al : List Nat) (e : Int), n ≤ n' → newSid n n' i → ansIs (rightW na a && rightW nb b) (numW na a - numW nb b) an al e → Q (.tup [W an i al, .int .i64 e]) n' []) : PCall Tryz.prog 98 [W na ia a, W nb ib b] n Q :=
  Sub_call hn na nb ia ib a b ha hb la lb (fun h => hQ _ _ _ _ _ (by omega) (.inl rfl) (by simp [ansIs, h])) (fun h i n' h1 h2 => hQ _ _ _ _ _ h1 h2 (by simp [ansIs, h]))

theorem dig_len {v k : Nat} (h : v < 4294967296 ^ k) : (dig v).length ≤ k := by
  induction k generalizing v with
  | zero => have : v = 0 := by simpa using h
            subst this; simp [dig_zero]
  | succ k ih =>
    by_cases h0 : v = 0
    · subst h0; simp [dig_zero]
    · rw [dig_pos h0]
      have := ih (v := v / 4294967296) (Nat.div_lt_of_lt_mul (by rw [Nat.pow_succ, Nat.mul_comm] at h; exact h))
      simp; omega
theorem sum_len {na nb : Bool} {a b : List Nat} (la : Lim a) (lb : Lim b) {z : Int} (h : z.natAbs ≤ val a + val b) {k : Nat} (hka : a.length ≤ k) (hkb : b.length ≤ k) : (dig z.natAbs).length ≤ k + 1 := by
  apply dig_len
  have h1 := val_lt la
  have h2 := val_lt lb
  have h3 : 4294967296 ^ a.length ≤ 4294967296 ^ k := Nat.pow_le_pow_right (by omega) hka
  have h4 : 4294967296 ^ b.length ≤ 4294967296 ^ k := Nat.pow_le_pow_right (by omega) hkb
  rw [Nat.pow_succ]
  omega
end Go.Proofs.YtphndngifjgeoaaGreatDoor

/-! CtH: What the functions of layer 1 do, by value: the reference's products. -/
set_option linter.unusedVariables false
set_option linter.unusedSimpArgs false
namespace Go.Proofs.YtphndngifjgeoaaGreatDoor
open Go.Proofs

theorem mul_lim {x y : Nat} (hx : x < 4294967296) (hy : y < 4294967296) : x * y ≤ 18446744065119617025 := by
  have := Nat.mul_le_mul (show x ≤ 4294967295 by omega) (show y ≤ 4294967295 by omega)
  omega
theorem mul_step {v w p t d c xy : Nat} (e : t + 4294967296 * d = xy + c) (h : v + p * c = w) : v + p * t + p * 4294967296 * d = w + p * xy := by
  have := congrArg (p * ·) e
  simp only [Nat.mul_add] at this
  rw [← Nat.mul_assoc] at this
  omega
def singleI (n : Nat) (ia : Sid) (a : List Nat) (x : Nat) (k : Nat) (s : St) : Prop :=
  ∃ (i c g nx : Nat) (out : List Nat), i + k = a.length ∧ At s 39 [] nx [(0, .sl ia 1 (u32s a)), (1, .int .u32 x), (5, .sl ⟨n, g, 0⟩ 1 (u32s out)), (6, .int .u64 c), (7, .int .i64 i)] ∧ tipOf s.tips g n = some i ∧ 0 < g ∧ g < nx ∧ n < nx ∧ out.length = i ∧ Lim out ∧ c < 4294967296 ∧ val out + 4294967296 ^ i * c = val (a.take i) * x
theorem single_call {n : Nat} (hn : 0 < n) (ia : Sid) (a : List Nat) (x : Nat) (ha : a.length < 35184372088800) (la : Lim a) (hx : x < 4294967296) {Q : PV → Nat → List Nat → Prop}
    (hQ : ∀ (i : Sid) (l : List Nat) (n' : Nat), n ≤ n' → n ≤ i.f → i.f < n' → Lim l → val l = val a * x → l.length = a.length + 1 → Q (.sl i 1 (u32s l)) n' []) : PCall Tryz.prog 81 [.sl ia 1 (u32s a), .int .u32 x] n Q := by
  refine of81 hn ?_
  simp (disch := omega) [c81]
  refine GO_loopN (singleI n ia a x) a.length ⟨0, 0, n, n + 1, [], by omega, by simp [At], by simp, by omega, by omega, by omega, rfl, .nil, by omega, by simp⟩ ?_
  rintro k s ⟨i, c, g, nx, out, hi, ⟨e1, e2, e3, e4, e5⟩, ht, hg, hgx, hnx, hol, lo, hc, hv⟩
  simp at e5
  obtain ⟨e5, e6, e7, e8, e9⟩ := e5
  by_cases hk : i < a.length
  · have hy := la.get hk
    obtain ⟨y, hy0⟩ : ∃ y, y = a[i] := ⟨_, rfl⟩
    have hp := mul_lim (show y < 4294967296 by omega) hx
    obtain ⟨p, hp0⟩ : ∃ p, p = y * x := ⟨_, rfl⟩
    rw [← hp0] at hp
    have hpi : (y : Int) * (x : Int) = (p : Int) := by rw [hp0]; simp
    obtain ⟨t, ht0⟩ : ∃ t, t = (p + c) % 4294967296 := ⟨_, rfl⟩
    obtain ⟨d, hd0⟩ : ∃ d, d = (p + c) / 4294967296 := ⟨_, rfl⟩
    have hst : t + 4294967296 * d = p + c := by omega
    have hrem : ((p : Int) + c).tmod 4294967296 = (t : Int) := by rw [Int.tmod_eq_emod_of_nonneg (by omega)]; omega
    have hquo : ((p : Int) + c).tdiv 4294967296 = (d : Int) := by rw [Int.tdiv_eq_ediv_of_nonneg (by omega)]; omega
    simp (disch := omega) [c81L0, e1, e2, e3, e4, e5, e6, e7, e8, e9, hk, ← hy0, hpi, hrem, hquo, ht, hol]
    refine ⟨by omega, k - 1, by omega, i + 1, d, nx + 1, nx + 2, out ++ [t], by omega, ?_, ?_, by omega, by omega, by omega, by simp [hol], lo.append (.one (by omega)), by omega, ?_⟩
    · simp [At, e1, e2, e3, e4, e5, e6, e7, e8, e9]
    · simp [e3]
    · rw [val_append, val_take_succ, hol, Nat.pow_succ, Nat.add_mul, Nat.mul_assoc]
      simp only [List.getD, List.getElem?_eq_getElem hk, Option.getD_some, ← hy0, ← hp0, val_cons, val_nil, Nat.mul_zero, Nat.add_zero]
      have := mul_step hst hv
      rw [Nat.mul_assoc, hp0, ← Nat.mul_assoc _ y x] at this
      exact this
  · have hkl : i = a.length := by omega
    simp (disch := omega) [c81L0, c81R0, e1, e2, e3, e4, e5, e6, e7, e8, e9, hk, ht, hol]
    rw [List.take_of_length_le (by omega)] at hv
    refine ⟨by omega, by omega, hQ _ _ _ (by omega) (by simp) (by simp; omega) (lo.append (.one hc)) ?_ (by simp; omega)⟩
    rw [val_append, hol]; simpa using hv

theorem numW_mul (na nb : Bool) (a b : List Nat) : (numW na a * numW nb b).natAbs = val a * val b := by rw [Int.natAbs_mul, numW_abs, numW_abs]
theorem numW_mul_neg (na nb : Bool) (a b : List Nat) (h : val a * val b ≠ 0) : (na != nb) = decide (numW na a * numW nb b < 0) := by
  have h2 : 0 < (val a : Int) * (val b : Int) := by
    have : ((val a * val b : Nat) : Int) = (val a : Int) * val b := by simp
    omega
  unfold numW
  cases na <;> cases nb <;> simp [Int.neg_mul, Int.mul_neg] <;> omega

@[simp] theorem u32s_zero_cons (l : List Nat) : PV.int .u32 0 :: u32s l = u32s (0 :: l) := rfl
@[simp ↓] theorem AppK_zero_u32s {f g off : Nat} {i2 : Sid} {m : List Nat} {s : St} {K : St → PV → Prop} (hg : ¬ g = 0) :
    AppK 1 4 (.sl ⟨f, g, off⟩ 1 [.int .u32 0]) (.sl i2 1 (u32s m)) s K ↔ (1 + m.length) * 4 ≤ 140737488355328 ∧ tipOf s.tips g f = some (off + 1) ∧ K (s.regrown g f (1 + m.length)) (.sl ⟨f, s.next, 0⟩ 1 (u32s (0 :: m))) := by
  simp [AppK, hg]

def refMulI (na nb : Bool) (ia ib : Sid) (a b : List Nat) (n : Nat) (k : Nat) (s : St) : Prop :=
  k ≤ b.length ∧ ∃ (i : Sid) (nx : Nat) (sum : List Nat), At s 37 [[.bool na, .sl ia 1 (u32s a)], [.bool nb, .sl ib 1 (u32s b)], [.bool false, .sl ⟨0, 0, 0⟩ 1 []]] nx [(2, .box 0 0), (3, .box 1 0), (4, .box 2 0), (5, .sl i 1 (u32s sum)), (6, .int .i64 ((k : Int) - 1))] ∧ n ≤ i.f ∧ i.f < nx ∧ sum.length ≤ a.length + 2 * (b.length - k) ∧ Lim sum ∧ val sum = val a * val (b.drop k)
theorem refMul_call {n : Nat} (hn : 0 < n) (na nb : Bool) (ia ib : Sid) (a b : List Nat) (ha : a.length ≤ 1048576) (hb : b.length ≤ 1048576) (la : Lim a) (lb : Lim b) (z : Int) (hz : numW na a * numW nb b = z) {Q : PV → Nat → List Nat → Prop}
    (hQ : ∀ (i : Sid) (n' : Nat), n ≤ n' → newSid n n' i → Q (W (decide (z < 0)) i (dig z.natAbs)) n' []) : PCall Tryz.prog 56 [W na ia a, W nb ib b] n Q := by
  simp only [W] at hQ
  refine of56 hn ?_
  simp (disch := omega) [c56]
  refine GO_loopN (refMulI na nb ia ib a b n) b.length ⟨by omega, ⟨n, n, 0⟩, n + 1, [], by simp [At], by simp, by simp, by simp, .nil, by simp⟩ ?_
  rintro k s ⟨hk, i, nx, sum, ⟨e1, e2, e3, e4, e5⟩, hi1, hi2, hsl, ls, hv⟩
  simp at e5
  obtain ⟨e5, e6, e7, e8, e9⟩ := e5
  cases k with
  | zero =>
    simp at hv
    simp (disch := omega) [c56L0, c56R0, e1, e2, e3, e4, e5, e6, e7, e8, e9]
    refine CallK.of (by simp) (Made_call' (by omega) (na != nb) i sum (by omega) ls z ?_ ?_ fun i' hi' => ?_)
    · rw [hv, ← hz, numW_mul]
    · rw [hv, ← hz]; exact numW_mul_neg na nb a b
    · have := hQ i' nx (by omega) (by rcases hi' with e | e; exact .inl e; subst e; exact .inr ⟨hi1, hi2⟩)
      simpa (disch := omega) [e1, e2, e3, e4, e5, e6, e7, e8, e9] using ⟨by omega, this⟩
  | succ j =>
    have hj : j < b.length := by omega
    have hw : ((j + 1 : Nat) : Int) - 1 = (j : Int) := by omega
    have hx := lb.get hj
    obtain ⟨x, hx0⟩ : ∃ x, x = b[j] := ⟨_, rfl⟩
    rw [hw] at e9
    simp (disch := omega) [c56L0, e1, e2, e3, e4, e5, e6, e7, e8, e9, hj, ← hx0]
    refine ⟨by omega, ?_⟩
    refine CallK.of (by simp) (single_call (by omega) ia a x (by omega) la (by omega) fun i1 l1 n1 h1 h2 h3 h4 h5 h6 => ?_)
    simp (disch := omega) [e1, e2, e3, e4, e5, e6, e7, e8, e9, hj]
    refine CallK.of (by simp) (plus_call (by omega) _ i1 (0 :: sum) l1 (by simp; omega) (by omega) (by intro y hy; rcases List.mem_cons.1 hy with e | e; omega; exact ls y e) h4 fun i2 l2 n2 k1 k2 k3 k4 k5 k6 => ?_)
    simp (disch := omega) [e1, e2, e3, e4, e5, e6, e7, e8, e9, hj]
    refine ⟨j, by omega, by omega, i2, n2, l2, ?_, by omega, by omega, by simp at k6; omega, k4, ?_⟩
    · simp [At, e1, e2, e3, e4, e5, e6, e7, e8, e9]
    · rw [k5, h5, List.drop_eq_getElem_cons hj, ← hx0, val_cons, val_cons, hv, Nat.mul_add]
      rw [Nat.mul_left_comm]
      omega

def lightB (na nb : Bool) (a b : List Nat) : Bool := (decide (a.length ≤ 40) || !rightW na a) && (decide (b.length ≤ 40) || !rightW nb b)
end Go.Proofs.YtphndngifjgeoaaGreatDoor

/-! CtI: What the functions of layer 1 do, by value: products. -/
set_option linter.unusedVariables false
set_option linter.unusedSimpArgs false
namespace Go.Proofs.YtphndngifjgeoaaGreatDoor
open Go.Proofs

@[simp] theorem replicate_u32 (n : Nat) : List.replicate n (PV.int .u32 0) = u32s (List.replicate n 0) := by simp [u32s]
theorem set_getD_other {o : List Nat} {p q v : Nat} (h : ¬ p = q) : (o.set p v).getD q 0 = o.getD q 0 := by simp [List.getD, List.getElem?_set, h]

@[simp] theorem pvupd_far (f g off z j c z' : Nat) (i' : Sid) (vs : List PV) (l : List Nat) (h : ¬ i'.f = f) : PV.upd ⟨f, g, off⟩ z j c vs (.sl i' z' (u32s l)) = .sl i' z' (u32s l) := pvupd_other _ _ _ _ _ _ _ _ h
@[simp] theorem pvupd_far0 (f g off z j c z' f' g' off' : Nat) (vs : List PV) (h : ¬ f' = f) : PV.upd ⟨f, g, off⟩ z j c vs (.sl ⟨f', g', off'⟩ z' []) = .sl ⟨f', g', off'⟩ z' [] := pvupd_other _ _ _ _ _ _ _ [] h
theorem mul_set {p v P R w c xy lo hi : Nat} (e : lo + 4294967296 * hi = xy + w + c) (h : p + P * w = v + P * lo) (h2 : v + P * c = R) : p + P * 4294967296 * hi = R + P * xy := by
  have := congrArg (P * ·) e
  simp only [Nat.mul_add] at this
  rw [← Nat.mul_assoc] at this
  omega
def mulBs (na nb : Bool) (ia ib : Sid) (a b : List Nat) : List (List PV) := [[.bool na, .sl ia 1 (u32s a)], [.bool nb, .sl ib 1 (u32s b)], [.bool false, .sl ⟨0, 0, 0⟩ 1 []]]
def mulI (na nb : Bool) (ia ib : Sid) (a b : List Nat) (n : Nat) (k : Nat) (s : St) : Prop :=
  ∃ (i : Nat) (o : List Nat), i + k = a.length ∧ At s 86 (mulBs na nb ia ib a b) (n + 1) [(2, .box 0 0), (3, .box 1 0), (4, .box 2 0), (6, .sl ⟨n, n, 0⟩ 1 (u32s o)), (27, .sl ia 1 (u32s a)), (28, .int .i64 a.length), (29, .int .i64 i)] ∧ s.n0 = n ∧ o.length = a.length + b.length ∧ Lim o ∧ (∀ q, i + b.length ≤ q → o.getD q 0 = 0) ∧ val o = val (a.take i) * val b
def mulJ (na nb : Bool) (ia ib : Sid) (a b : List Nat) (n i x : Nat) (o : List Nat) (k : Nat) (s : St) : Prop :=
  ∃ (j c : Nat) (o' : List Nat), j + k = b.length ∧ At s 86 (mulBs na nb ia ib a b) (n + 1) [(2, .box 0 0), (3, .box 1 0), (4, .box 2 0), (6, .sl ⟨n, n, 0⟩ 1 (u32s o')), (27, .sl ia 1 (u32s a)), (28, .int .i64 a.length), (29, .int .i64 i), (7, .int .i64 i), (8, .int .u32 x), (9, .int .u64 c), (35, .sl ib 1 (u32s b)), (36, .int .i64 b.length), (37, .int .i64 j)] ∧ s.n0 = n ∧ o'.length = a.length + b.length ∧ Lim o' ∧ c < 4294967296 ∧ (∀ q, i + b.length ≤ q → o'.getD q 0 = 0) ∧ val o' + 4294967296 ^ (i + j) * c = val o + 4294967296 ^ i * (x * val (b.take j))

theorem mul_call {n : Nat} (hn : 0 < n) (na nb : Bool) (ia ib : Sid) (hia : ia.f < n) (hib : ib.f < n) (a b : List Nat) (ha : a.length < 35184372088800) (hb : b.length < 35184372088800) (la : Lim a) (lb : Lim b) {Q : PV → Nat → List Nat → Prop}
    (hQ : ∀ (i : Sid) (n' : Nat) (an : Bool) (al : List Nat) (e : Int), n ≤ n' → newSid n n' i → ansIs (rightW na a && rightW nb b) (numW na a * numW nb b) an al e → Q (.tup [W an i al, .int .i64 e]) n' []) : PCall Tryz.prog 87 [W na ia a, W nb ib b] n Q := by
  refine of87 hn ?_
  simp (disch := omega) [c87]
  refine CallK.of (by simp) (two_call hn na nb ia ib a b (by omega) (by omega) ?_)
  by_cases hr : (rightW na a && rightW nb b) = true
  · have hQ := fun i n' an al e h1 h2 h3 => hQ i n' an al e h1 h2 h3
    simp only [hr] at hQ
    simp only [Bool.and_eq_true] at hr
    have hra := (rightW_top hr.1).2.1
    have hrb := (rightW_top hr.2).2.1
    have hi2 : ¬ ia.f = n ∧ ¬ ib.f = n ∧ ¬ n = 0 := by omega
    have htn : ((a.length : Int) + b.length).toNat = a.length + b.length := by omega
    simp (disch := omega) [hr, htn]
    refine ⟨by omega, by omega, ?_⟩
    refine GO_loopN (mulI na nb ia ib a b n) a.length ⟨0, List.replicate (a.length + b.length) 0, by omega, by simp [At, mulBs], by simp, by simp, Lim.replicate _, fun q _ => by simp [List.getD, List.getElem?_replicate]; split <;> rfl, by simp [val_replicate]⟩ ?_
    rintro k s ⟨i, o, hi, ⟨e1, e2, e3, e4, e5⟩, e0, hol, lo, hz, hv⟩
    simp at e5
    obtain ⟨e5, e6, e7, e8, e9, e10, e11⟩ := e5
    unfold mulBs at e2
    by_cases hk : i < a.length
    · have hx := la.get hk
      obtain ⟨x, hx0⟩ : ∃ x, x = a[i] := ⟨_, rfl⟩
      simp (disch := omega) [c87L1, e0, e1, e2, e3, e4, e5, e6, e7, e8, e9, e10, e11, hk, ← hx0]
      refine GO_loopN (mulJ na nb ia ib a b n i x o) b.length ⟨0, 0, o, by omega, by simp [At, mulBs, e1, e2, e3, e4, e5, e6, e7, e8, e9, e10, e11], by simp [e0], hol, lo, by omega, hz, by simp⟩ ?_
      rintro k2 s2 ⟨j, c, o2, hj, ⟨f1, f2, f3, f4, f5⟩, f0, hol2, lo2, hc, hz2, hv2⟩
      simp at f5
      obtain ⟨f5, f6, f7, f8, f9, f10, f11, f12, f13, f14, f15, f16, f17⟩ := f5
      unfold mulBs at f2
      by_cases hk2 : j < b.length
      · have hy := lb.get hk2
        have hq : i + j < o2.length := by omega
        have hw := lo2.get hq
        obtain ⟨y, hy0⟩ : ∃ y, y = b[j] := ⟨_, rfl⟩
        obtain ⟨w, hw0⟩ : ∃ w, w = o2[i + j] := ⟨_, rfl⟩
        have hp := mul_lim (show x < 4294967296 by omega) (show y < 4294967296 by omega)
        obtain ⟨p, hp0⟩ : ∃ p, p = x * y := ⟨_, rfl⟩
        rw [← hp0] at hp
        have hpi : (x : Int) * (y : Int) = (p : Int) := by rw [hp0]; simp
        obtain ⟨l0, hl0⟩ : ∃ l0, l0 = (p + w + c) % 4294967296 := ⟨_, rfl⟩
        obtain ⟨h0, hh0⟩ : ∃ h0, h0 = (p + w + c) / 4294967296 := ⟨_, rfl⟩
        have hst : l0 + 4294967296 * h0 = p + w + c := by omega
        have hlo : IntKind.u32.wrap ((p : Int) + w + c) = (l0 : Int) := by rw [wrap_u32_eq]; omega
        have hhi : ((p : Int) + w + c) / 4294967296 = (h0 : Int) := by omega
        have hij : ((i : Int) + j).toNat = i + j := by omega
        have hi0 : (0 : Int) ≤ (i : Int) + j := by omega
        have hi1 : (i : Int) + j < o2.length := by omega
        simp (disch := omega) [-wrap_u32_at, c87L0, f0, f1, f2, f3, f4, f5, f6, f7, f8, f9, f10, f11, f12, f13, f14, f15, f16, f17, hk2, ← hy0, hi2, hq, hij, hi0, hi1, ← hw0, hpi, hlo, hhi]
        refine ⟨k2 - 1, by omega, j + 1, h0, o2.set (i + j) l0, by omega, ?_, by simp [f0], by simp [hol2], lo2.set _ (by omega), by omega, ?_, ?_⟩
        · refine ⟨by simp [f1], by simp (disch := omega) [mulBs, f2, hi2], by simp [f3], by simp [f0, f4], ?_⟩
          intro pp hpp
          simp only [List.mem_cons, List.not_mem_nil, or_false] at hpp
          rcases hpp with e | e | e | e | e | e | e | e | e | e | e | e | e <;> subst e <;> simp (disch := omega) [f5, f6, f7, f8, f9, f10, f11, f12, f13, f14, f15, f16, f17, hi2]
        · intro q hq2
          rw [set_getD_other (by omega)]; exact hz2 q hq2
        · have h1 := val_set hq l0
          rw [← hw0] at h1
          have := mul_set hst h1 hv2
          rw [show i + (j + 1) = i + j + 1 from rfl, Nat.pow_succ, this, val_take_succ]
          simp only [List.getD, List.getElem?_eq_getElem hk2, Option.getD_some, ← hy0]
          rw [hp0, Nat.pow_add, Nat.mul_add x, Nat.mul_add, Nat.add_assoc]
          rw [Nat.mul_left_comm x, Nat.mul_assoc]
      · have hjb : j = b.length := by omega
        subst hjb
        have hq : i + b.length < o2.length := by omega
        have hib2 : ((i : Int) + b.length).toNat = i + b.length := by omega
        have hi0 : (0 : Int) ≤ (i : Int) + b.length := by omega
        have hi1 : (i : Int) + b.length < o2.length := by omega
        have hw := hz2 (i + b.length) (by omega)
        simp only [List.getD, List.getElem?_eq_getElem hq, Option.getD_some] at hw
        simp (disch := omega) [c87L0, c87R0, c87R1, f0, f1, f2, f3, f4, f5, f6, f7, f8, f9, f10, f11, f12, f13, f14, f15, f16, f17, hk2, hi2, hq, hib2, hi0, hi1]
        refine ⟨k - 1, by omega, i + 1, o2.set (i + b.length) c, by omega, ?_, by simp [f0], by simp [hol2], lo2.set _ hc, ?_, ?_⟩
        · refine ⟨by simp [f1], by simp (disch := omega) [mulBs, f2, hi2], by simp [f3], by simp [f0, f4], ?_⟩
          intro pp hpp
          simp only [List.mem_cons, List.not_mem_nil, or_false] at hpp
          rcases hpp with e | e | e | e | e | e | e <;> subst e <;> simp (disch := omega) [f5, f6, f7, f8, f9, f10, f11, f12, f13, f14, f15, f16, f17, hi2]
        · intro q hq2
          rw [set_getD_other (by omega)]; exact hz2 q (by omega)
        · have h1 := val_set hq c
          rw [hw, Nat.mul_zero, Nat.add_zero] at h1
          rw [List.take_of_length_le (by omega)] at hv2
          rw [h1, hv2, val_take_succ, hv, Nat.add_mul]
          simp only [List.getD, List.getElem?_eq_getElem hk, Option.getD_some, ← hx0]
          rw [Nat.mul_assoc]
    · have hia2 : i = a.length := by omega
      rw [List.take_of_length_le (by omega)] at hv
      simp (disch := omega) [c87L1, c87R2, e0, e1, e2, e3, e4, e5, e6, e7, e8, e9, e10, e11, hk]
      refine CallK.of (by simp) (of_call' (by omega) (na != nb) _ o (by omega) lo (numW na a * numW nb b) ?_ ?_ fun i' hi' => ?_)
      · rw [hv, numW_mul]
      · rw [hv]; exact numW_mul_neg na nb a b
      · have := hQ i' (n + 1) (ansN (numW na a * numW nb b)) (ansL (numW na a * numW nb b)) (ansE (numW na a * numW nb b)) (by omega) (by rcases hi' with e | e; exact .inl e; subst e; exact .inr ⟨by simp, by simp⟩) (by simp [ansIs])
        simp only [W] at this
        simpa (disch := omega) [e0, e1, e2, e3, e4, e5, e6, e7, e8, e9, e10, e11] using this
  · rw [Bool.not_eq_true] at hr
    have := hQ ⟨0, 0, 0⟩ n false [] 1 (by omega) (.inl rfl) (by simp [ansIs, hr])
    simp only [W] at this
    rw [hr]
    simpa using this
end Go.Proofs.YtphndngifjgeoaaGreatDoor

/-! CtJ: What the functions of layer 1 do, by value: small numbers, which is more, how many bits. -/
set_option linter.unusedVariables false
set_option linter.unusedSimpArgs false
namespace Go.Proofs.YtphndngifjgeoaaGreatDoor
open Go.Proofs

theorem wrap_i64_is {x y : Int} (h : x = y) (h1 : -9223372036854775808 ≤ x ∧ x < 9223372036854775808) : IntKind.i64.wrap x = y := by rw [wrap_i64_id x h1.1 h1.2, h]
theorem RefOf_call {n : Nat} (hn : 0 < n) (m : Int) (hm : -9223372036854775808 ≤ m) (hm' : m < 9223372036854775808) {Q : PV → Nat → List Nat → Prop}
    (hQ : ∀ (i : Sid) (n' : Nat), n ≤ n' → newSid n n' i → Q (W (decide (m < 0)) i (dig m.natAbs)) n' []) : PCall Tryz.prog 30 [.int .i64 m] n Q := by
  simp only [W] at hQ
  refine of30 hn ?_
  obtain ⟨lo, hlo0⟩ : ∃ lo, lo = m.natAbs % 4294967296 := ⟨_, rfl⟩
  obtain ⟨hi, hhi0⟩ : ∃ hi, hi = m.natAbs / 4294967296 := ⟨_, rfl⟩
  obtain ⟨v, hv0⟩ : ∃ v, v = m.natAbs := ⟨_, rfl⟩
  have hlim : Lim [lo, hi] := by intro x hx; simp at hx; omega
  have hval : val [lo, hi] = m.natAbs := by simp; omega
  have hfin : ∀ s : Sid, s.f = n → ∀ i', i' = ⟨0, 0, 0⟩ ∨ i' = s → newSid n (n + 1) i' := by
    intro s hs i' h
    rcases h with h | h
    · exact .inl h
    · subst h; exact .inr ⟨by omega, by omega⟩
  by_cases hs : m < 0
  · have h1 : IntKind.i64.wrap (m + 1) = m + 1 := wrap_i64_is (by omega) (by omega)
    have h2 : IntKind.i64.wrap (0 - (m + 1)) = (v : Int) - 1 := wrap_i64_is (by omega) (by omega)
    have h3 : IntKind.u64.wrap ((v : Int) - 1) = (v : Int) - 1 := by rw [wrap_u64_eq]; omega
    have h4 : IntKind.u64.wrap ((v : Int) - 1 + 1) = (v : Int) := by rw [wrap_u64_eq]; omega
    have h5 : IntKind.u32.wrap ((v : Int).tmod 4294967296) = (lo : Int) := by rw [Int.tmod_eq_emod_of_nonneg (by omega), wrap_u32_eq]; omega
    have h6 : IntKind.u64.wrap ((v : Int).tdiv 4294967296) = (hi : Int) := by rw [Int.tdiv_eq_ediv_of_nonneg (by omega), wrap_u64_eq]; omega
    have h7 : IntKind.u32.wrap (hi : Int) = (hi : Int) := by rw [wrap_u32_eq]; omega
    have h8 : IntKind.u64.wrap ((v : Int) / 4294967296) = (hi : Int) := by rw [wrap_u64_eq]; omega
    simp (disch := omega) [-wrap_u64_at, -wrap_u32_at, -wrap_i64_at, -Int.zero_sub, -Int.sub_add_cancel, c30, hs, h1, h2, h3, h4, h5, h6, h7, h8]
    refine CallK.of (by simp) (Made_call' (by omega) true ⟨n, n, 0⟩ [lo, hi] (by simp) hlim m (by omega) (by simp [hs]) fun i' hi' => ?_)
    simpa [hs] using hQ i' (n + 1) (by omega) (hfin _ rfl i' hi')
  · have h5 : IntKind.u32.wrap (m.tmod 4294967296) = (lo : Int) := by rw [Int.tmod_eq_emod_of_nonneg (by omega), wrap_u32_eq]; omega
    have h6 : IntKind.i64.wrap (m.tdiv 4294967296) = (hi : Int) := by rw [Int.tdiv_eq_ediv_of_nonneg (by omega)]; exact wrap_i64_is (by omega) (by omega)
    have h7 : IntKind.u32.wrap (hi : Int) = (hi : Int) := by rw [wrap_u32_eq]; omega
    simp (disch := omega) [-wrap_u64_at, -wrap_u32_at, -wrap_i64_at, c30, hs, h5, h6, h7]
    refine CallK.of (by simp) (Made_call' (by omega) false ⟨n, n, 0⟩ [lo, hi] (by simp) hlim m (by omega) (by simp [hs]) fun i' hi' => ?_)
    simpa [hs] using hQ i' (n + 1) (by omega) (hfin _ rfl i' hi')

/-- Which of two is more, their difference being z. -/
def cmpZ (z : Int) : Int := if z < 0 then -1 else if z = 0 then 0 else 1
theorem val_pos {l : List Nat} (ll : Lim l) (h : topOk l) (hl : l ≠ []) : 0 < val l := by
  rcases Nat.eq_zero_or_pos (val l) with e | e
  · have := right_dig ll h
    rw [e, dig_zero] at this
    exact absurd this.symm hl
  · exact e
theorem sizeL_cmp {a b : List Nat} (la : Lim a) (lb : Lim b) (ta : topOk a) (tb : topOk b) : sizeL a b = cmpZ ((val a : Int) - val b) := by
  unfold sizeL cmpZ
  by_cases h1 : a.length < b.length
  · have := val_lt_len la tb h1
    rw [if_pos h1, if_pos (by omega)]
  · by_cases h2 : b.length < a.length
    · have := val_lt_len lb ta h2
      rw [if_neg h1, if_pos h2, if_neg (by omega), if_neg (by omega)]
    · rw [if_neg h1, if_neg h2]
      by_cases h3 : val a < val b
      · rw [if_pos h3, if_pos (by omega)]
      · by_cases h4 : val b < val a
        · rw [if_neg h3, if_pos h4, if_neg (by omega), if_neg (by omega)]
        · rw [if_neg h3, if_neg h4, if_neg (by omega), if_pos (by omega)]

/-! ### bits -/
def blenF : Nat → Nat → Nat
  | 0, _ => 0
  | f + 1, x => if x = 0 then 0 else blenF f (x / 2) + 1
/-- How many bits a limb has. -/
def blen (x : Nat) : Nat := blenF 32 x
theorem blenF_succ : ∀ (f x : Nat), x < 2 ^ f → blenF (f + 1) x = blenF f x
  | 0, x, h => by have : x = 0 := by simpa using h
                  subst this; simp [blenF]
  | f + 1, x, h => by
    show (if x = 0 then 0 else blenF (f + 1) (x / 2) + 1) = (if x = 0 then 0 else blenF f (x / 2) + 1)
    rw [blenF_succ f (x / 2) (by rw [Nat.pow_succ] at h; omega)]
theorem blen_zero : blen 0 = 0 := by simp [blen, blenF]
theorem blen_half {x : Nat} (h : x ≠ 0) (hx : x < 4294967296) : blen x = blen (x / 2) + 1 := by
  show (if x = 0 then 0 else blenF 31 (x / 2) + 1) = blenF 32 (x / 2) + 1
  rw [if_neg h, blenF_succ 31 (x / 2) (by omega)]
theorem blen_shift {x : Nat} : ∀ (k : Nat), x / 2 ^ k ≠ 0 → x < 4294967296 → blen x = blen (x / 2 ^ k) + k
  | 0, h, hx => by simp
  | k + 1, h, hx => by
    have e : x / 2 ^ (k + 1) = x / 2 ^ k / 2 := by rw [Nat.pow_succ, Nat.div_div_eq_div_mul]
    rw [e] at h ⊢
    have h0 : x / 2 ^ k ≠ 0 := by omega
    rw [blen_shift k h0 hx, blen_half h0 (Nat.lt_of_le_of_lt (Nat.div_le_self _ _) hx)]
    omega
theorem blen_le {x : Nat} (hx : x < 4294967296) : blen x ≤ 32 := by
  have : ∀ f x, blenF f x ≤ f := by
    intro f
    induction f with
    | zero => intro x; simp [blenF]
    | succ f ih => intro x; rw [blenF]; split; omega; have := ih (x / 2); omega
  exact this 32 x
/-- How many bits a number has. -/
def lenW (l : List Nat) : Nat := if h : 0 < l.length then 32 * (l.length - 1) + blen l[l.length - 1] else 0

def refLenI (neg : Bool) (i : Sid) (l : List Nat) (n : Nat) (k : Nat) (s : St) : Prop :=
  ∃ (top c : Nat), k = blen top ∧ top < 4294967296 ∧ c + k = lenW l ∧ At s 29 [[.bool neg, .sl i 1 (u32s l)]] n [(1, .box 0 0), (3, .int .i64 c), (4, .int .u32 top)]
end Go.Proofs.YtphndngifjgeoaaGreatDoor

/-! CtK: What the functions of layer 1 do, by value: how many bits a number has. -/
set_option linter.unusedVariables false
set_option linter.unusedSimpArgs false
namespace Go.Proofs.YtphndngifjgeoaaGreatDoor
open Go.Proofs

theorem wrap_u8_at (x : Nat) (h : x < 256) : IntKind.u8.wrap (x : Int) = (x : Int) := by
  simp [IntKind.wrap, IntKind.bits, IntKind.signed]; omega
end Go.Proofs.YtphndngifjgeoaaGreatDoor

/-! CtL: What the functions of layer 1 do, by value: the numbers' own law: a right number is what it is worth. -/
set_option linter.unusedVariables false
set_option linter.unusedSimpArgs false
namespace Go.Proofs.YtphndngifjgeoaaGreatDoor
open Go.Proofs

/-- Does a number have no more than k limbs? -/
def sz (z : Int) (k : Nat) : Prop := z.natAbs < 4294967296 ^ k
theorem sz.mono {z : Int} {k m : Nat} (h : sz z k) (hk : k ≤ m) : sz z m := Nat.lt_of_lt_of_le h (Nat.pow_le_pow_right (by omega) hk)
theorem sz.add {x y : Int} {k : Nat} (hx : sz x k) (hy : sz y k) : sz (x + y) (k + 1) := by
  unfold sz at *; rw [Nat.pow_succ]; omega
theorem sz.sub {x y : Int} {k : Nat} (hx : sz x k) (hy : sz y k) : sz (x - y) (k + 1) := by
  unfold sz at *; rw [Nat.pow_succ]; omega
theorem sz.mul {x y : Int} {k m : Nat} (hx : sz x k) (hy : sz y m) : sz (x * y) (k + m) := by
  unfold sz at *; rw [Nat.pow_add, Int.natAbs_mul]; exact Nat.mul_lt_mul'' hx hy
theorem sz.le {x y : Int} {k : Nat} (hx : sz x k) (h : y.natAbs ≤ x.natAbs) : sz y k := Nat.lt_of_le_of_lt h hx
theorem sz.len {x : Int} {k : Nat} (hx : sz x k) : (dig x.natAbs).length ≤ k := dig_len hx
theorem sz_dig (x : Int) : sz x (dig x.natAbs).length := by
  have := val_lt (Lim.dig x.natAbs)
  rwa [val_dig] at this
theorem newSid_lt {n n' : Nat} {i : Sid} (h : newSid n n' i) (hn : 0 < n') : i.f < n' := by
  rcases h with e | e
  · subst e; simpa using hn
  · omega
theorem right_Z {na : Bool} {a : List Nat} (h : rightW na a = true) (la : Lim a) : ∃ x : Int, na = decide (x < 0) ∧ a = dig x.natAbs := by
  have h3 := rightW_top h
  refine ⟨numW na a, ?_, by rw [numW_abs, right_dig la h3.1]⟩
  cases na with
  | false => simp [numW]
  | true =>
    have hne : a ≠ [] := fun e => by have := h3.2.2 e; simp at this
    have hp : 0 < val a := by
      rcases Nat.eq_zero_or_pos (val a) with e | e
      · have := right_dig la h3.1
        rw [e, dig_zero] at this
        exact absurd this.symm hne
      · exact e
    simp [numW]; omega
theorem rightW_Z {x : Int} (h : (dig x.natAbs).length ≤ 512) : rightW (decide (x < 0)) (dig x.natAbs) = true := by
  have := topOk_dig x.natAbs
  by_cases hx : x = 0
  · subst hx; simp [rightW, dig_zero, topOk]
  · have hne : ¬ (dig x.natAbs) = [] := fun e => by have := dig_eq_nil.1 e; omega
    simp [rightW, this, h, hne]
theorem ansIs_Z {z : Int} {an : Bool} {al : List Nat} {e : Int} (h : ansIs true z an al e) (hz : (dig z.natAbs).length ≤ 512) : an = decide (z < 0) ∧ al = dig z.natAbs ∧ e = 0 := by
  obtain ⟨rfl, rfl, rfl⟩ := h
  simp [ansN, ansL, ansE, big, hz]; omega

theorem Add_Z {n : Nat} (hn : 0 < n) (x y z : Int) (ia ib : Sid) (k : Nat) (hx : sz x k) (hy : sz y k) (hk : k < 512) (hz : x + y = z) {Q : PV → Nat → List Nat → Prop}
    (hQ : ∀ (i : Sid) (n' : Nat), n ≤ n' → newSid n n' i → Q (.tup [W (decide (z < 0)) i (dig z.natAbs), .int .i64 0]) n' []) : PCall Tryz.prog 86 [W (decide (x < 0)) ia (dig x.natAbs), W (decide (y < 0)) ib (dig y.natAbs)] n Q := by
  have h1 := hx.len
  have h2 := hy.len
  refine Add_any hn _ _ ia ib _ _ (by omega) (by omega) (Lim.dig _) (Lim.dig _) fun i n' an al e k1 k2 k3 => ?_
  rw [rightW_Z (by omega), rightW_Z (by omega), numW_dig, numW_dig, hz] at k3
  obtain ⟨rfl, rfl, rfl⟩ := ansIs_Z k3 (by have := (hz ▸ hx.add hy : sz z _).len; omega)
  exact hQ i n' k1 k2
theorem Sub_Z {n : Nat} (hn : 0 < n) (x y z : Int) (ia ib : Sid) (k : Nat) (hx : sz x k) (hy : sz y k) (hk : k < 512) (hz : x - y = z) {Q : PV → Nat → List Nat → Prop}
    (hQ : ∀ (i : Sid) (n' : Nat), n ≤ n' → newSid n n' i → Q (.tup [W (decide (z < 0)) i (dig z.natAbs), .int .i64 0]) n' []) : PCall Tryz.prog 98 [W (decide (x < 0)) ia (dig x.natAbs), W (decide (y < 0)) ib (dig y.natAbs)] n Q := by
  have h1 := hx.len
  have h2 := hy.len
  refine Sub_any hn _ _ ia ib _ _ (by omega) (by omega) (Lim.dig _) (Lim.dig _) fun i n' an al e k1 k2 k3 => ?_
  rw [rightW_Z (by omega), rightW_Z (by omega), numW_dig, numW_dig, hz] at k3
  obtain ⟨rfl, rfl, rfl⟩ := ansIs_Z k3 (by have := (hz ▸ hx.sub hy : sz z _).len; omega)
  exact hQ i n' k1 k2
theorem Mul_Z {n : Nat} (hn : 0 < n) (x y z : Int) (ia ib : Sid) (hia : ia.f < n) (hib : ib.f < n) (k m : Nat) (hx : sz x k) (hy : sz y m) (hk : k + m ≤ 512) (hz : x * y = z) {Q : PV → Nat → List Nat → Prop}
    (hQ : ∀ (i : Sid) (n' : Nat), n ≤ n' → newSid n n' i → Q (.tup [W (decide (z < 0)) i (dig z.natAbs), .int .i64 0]) n' []) : PCall Tryz.prog 87 [W (decide (x < 0)) ia (dig x.natAbs), W (decide (y < 0)) ib (dig y.natAbs)] n Q := by
  have h1 := hx.len
  have h2 := hy.len
  refine mul_call hn _ _ ia ib hia hib _ _ (by omega) (by omega) (Lim.dig _) (Lim.dig _) fun i n' an al e k1 k2 k3 => ?_
  rw [rightW_Z (by omega), rightW_Z (by omega), numW_dig, numW_dig, hz] at k3
  obtain ⟨rfl, rfl, rfl⟩ := ansIs_Z k3 (by have := (hz ▸ hx.mul hy : sz z _).len; omega)
  exact hQ i n' k1 k2
end Go.Proofs.YtphndngifjgeoaaGreatDoor

/-! CtM: What the functions of layer 1 do, by value: a number's value, if it is small. -/
set_option linter.unusedVariables false
set_option linter.unusedSimpArgs false
namespace Go.Proofs.YtphndngifjgeoaaGreatDoor
open Go.Proofs

theorem or_nat {a b k : Nat} (ha : a < 2 ^ k) (hb : 2 ^ k * b + a < 18446744073709551616) : (BitVec.ofInt 64 ((a : Nat) : Int) ||| BitVec.ofInt 64 ((2 ^ k * b : Nat) : Int)).toNat = 2 ^ k * b + a := by
  rw [BitVec.ofInt_natCast, BitVec.ofInt_natCast, BitVec.toNat_or, BitVec.toNat_ofNat, BitVec.toNat_ofNat, Nat.mod_eq_of_lt (by omega), Nat.mod_eq_of_lt (by omega), Nat.or_comm, Nat.two_pow_add_eq_or_of_lt ha]
theorem binPV_or_low {P : Program} {t : TypeId} {a b k c d : Nat} (ha : a < 2 ^ k) (hb : b = 2 ^ k * d) (hc : c = b + a) (hl : c < 18446744073709551616) : binPV P .or t (.int .u64 (a : Int)) (.int .u64 (b : Int)) = some (.int .u64 (c : Int)) := by
  subst hb
  rw [binPV_or, bits_u64, or_nat ha (by omega), ← hc, wrap_u64_nat _ hl]
theorem binPV_or_high {P : Program} {t : TypeId} {a b k c d : Nat} (ha : a < 2 ^ k) (hb : b = 2 ^ k * d) (hc : c = b + a) (hl : c < 18446744073709551616) : binPV P .or t (.int .u64 (b : Int)) (.int .u64 (a : Int)) = some (.int .u64 (c : Int)) := by
  have := binPV_or_low (P := P) (t := t) ha hb hc hl
  rw [binPV_or] at this ⊢
  rw [BitVec.or_comm]; exact this

/-- Why a number's value can't be told. -/
def smallE (neg : Bool) (l : List Nat) : Int := if rightW neg l then (if numW neg l < -9223372036854775808 ∨ 9223372036854775807 < numW neg l then 2 else 0) else 1
def smallN (neg : Bool) (l : List Nat) : Int := if smallE neg l = 0 then numW neg l else 0
def smallI (neg : Bool) (i : Sid) (l : List Nat) (n : Nat) (k : Nat) (s : St) : Prop :=
  ∃ (j v : Nat), j + k = l.length ∧ v = val (l.take j) ∧ At s 48 [[.bool neg, .sl i 1 (u32s l)]] n [(1, .box 0 0), (4, .int .u64 v), (15, .sl i 1 (u32s l)), (16, .int .i64 l.length), (17, .int .i64 j)]
theorem small_Z {z : Int} (hz : -9223372036854775808 ≤ z ∧ z < 9223372036854775808) : sz z 2 ∧ smallE (decide (z < 0)) (dig z.natAbs) = 0 ∧ smallN (decide (z < 0)) (dig z.natAbs) = z := by
  have h1 : sz z 2 := by unfold sz; omega
  have h2 := h1.len
  have h3 : smallE (decide (z < 0)) (dig z.natAbs) = 0 := by
    unfold smallE; rw [rightW_Z (by omega), numW_dig, if_pos rfl, if_neg (by omega)]
  exact ⟨h1, h3, by unfold smallN; rw [h3, if_pos rfl, numW_dig]⟩
end Go.Proofs.YtphndngifjgeoaaGreatDoor

/-! CtN: What the functions of layer 1 do, by value: shifts. -/
set_option linter.unusedVariables false
set_option linter.unusedSimpArgs false
namespace Go.Proofs.YtphndngifjgeoaaGreatDoor
open Go.Proofs

@[simp] theorem sliceP_from_u32 (i : Sid) (l : List Nat) (lo : Nat) (h : lo ≤ l.length) : sliceP 1 i (u32s l) (lo : Int) (l.length : Int) = some (.sl ⟨i.f, i.g, i.off + lo⟩ 1 (u32s (l.drop lo))) := by
  rw [sliceP_nat_u32 _ _ _ _ ⟨h, Nat.le_refl _⟩, List.take_of_length_le (by simp)]
@[simp] theorem sliceP_one_u32 (i : Sid) (l : List Nat) (h : 1 ≤ l.length) : sliceP 1 i (u32s l) 1 (l.length : Int) = some (.sl ⟨i.f, i.g, i.off + 1⟩ 1 (u32s (l.drop 1))) := sliceP_from_u32 i l 1 h

/-- A number times a power of two, towards 0. -/
def shZ (x n : Int) : Int := if 0 ≤ n then x * 2 ^ n.toNat else x.tdiv (2 ^ (-n).toNat)
theorem natAbs_two_pow (k : Nat) : ((2 : Int) ^ k).natAbs = 2 ^ k := by rw [Int.natAbs_pow]; rfl
theorem shZ_abs (x n : Int) : (shZ x n).natAbs = if 0 ≤ n then x.natAbs * 2 ^ n.toNat else x.natAbs / 2 ^ (-n).toNat := by
  unfold shZ
  split
  · rw [Int.natAbs_mul, natAbs_two_pow]
  · rw [Int.natAbs_tdiv, natAbs_two_pow]; rfl
theorem two_pow_pos' (k : Nat) : (0 : Int) < 2 ^ k := Int.pow_pos (by omega)
theorem shZ_nonneg {x n : Int} (h : 0 ≤ x) : 0 ≤ shZ x n := by
  have := two_pow_pos' n.toNat
  have := two_pow_pos' (-n).toNat
  unfold shZ; split
  · exact Int.mul_nonneg h (by omega)
  · exact Int.tdiv_nonneg h (by omega)
theorem shZ_negate (x n : Int) : shZ (-x) n = - shZ x n := by
  unfold shZ; split
  · rw [Int.neg_mul]
  · rw [Int.neg_tdiv]
theorem shZ_sign (x n : Int) (h : (shZ x n).natAbs ≠ 0) : decide (x < 0) = decide (shZ x n < 0) := by
  by_cases hx : x < 0
  · have := shZ_nonneg (x := -x) (n := n) (by omega)
    rw [shZ_negate] at this
    simp [hx]; omega
  · have := shZ_nonneg (x := x) (n := n) (by omega)
    simp [hx]; omega
theorem shZ_zero (n : Int) : shZ 0 n = 0 := by
  have := shZ_abs 0 n
  have h : (shZ 0 n).natAbs = 0 := by rw [this]; split <;> simp
  omega
theorem shZ_none (x : Int) : shZ x 0 = x := by simp [shZ]

theorem shl_step {v p c w y P s lo hi : Nat} (e : lo + 4294967296 * hi = s + c) (hs : s = y * P) (h : v + p * c = w) : v + p * lo + p * 4294967296 * hi = w + p * (y * P) := by
  subst hs
  exact mul_step e h
theorem shr_step {x r0 R' P T : Nat} (hPT : P * T = 4294967296) (hx : x < 4294967296) (hP : 0 < P) : (x + 4294967296 * (r0 + 4294967296 * R')) / P = ((x + 4294967296 * r0) / P) % 4294967296 + 4294967296 * ((r0 + 4294967296 * R') / P) := by
  have e1 : ∀ z, (x + 4294967296 * z) / P = x / P + T * z := fun z => by
    rw [← hPT, Nat.mul_assoc, Nat.add_mul_div_left _ _ hP]
  have e2 : ∀ z, T * z = 4294967296 * (z / P) + T * (z % P) := fun z => by
    have := Nat.div_add_mod z P
    calc T * z = T * (P * (z / P) + z % P) := by rw [this]
      _ = 4294967296 * (z / P) + T * (z % P) := by rw [Nat.mul_add, ← Nat.mul_assoc, Nat.mul_comm T P, hPT]
  have e3 : (r0 + 4294967296 * R') % P = r0 % P := by
    rw [← hPT, Nat.mul_assoc, Nat.add_mul_mod_self_left]
  have hxT : x / P < T := Nat.div_lt_of_lt_mul (by rw [hPT]; exact hx)
  have hr : r0 % P < P := Nat.mod_lt _ hP
  have hle : T * (r0 % P) + T ≤ 4294967296 := by
    have : T * (r0 % P + 1) ≤ T * P := Nat.mul_le_mul_left T hr
    rw [Nat.mul_comm T P, hPT, Nat.mul_add] at this
    omega
  rw [e1, e1, e2 (r0 + 4294967296 * R'), e2 r0, e3]
  generalize x / P = e at *
  generalize r0 / P = e' at *
  generalize (r0 + 4294967296 * R') / P = e'' at *
  generalize T * (r0 % P) = f at *
  omega

theorem pow_split (q r : Nat) : 4294967296 ^ q * 2 ^ r = 2 ^ (32 * q + r) := by
  rw [Nat.pow_add, Nat.pow_mul]

theorem getD_drop (a : List Nat) (i : Nat) : val (a.drop i) = a.getD i 0 + 4294967296 * val (a.drop (i + 1)) := by
  by_cases h : i < a.length
  · rw [List.drop_eq_getElem_cons h, val_cons]; simp [List.getD, h]
  · rw [List.drop_eq_nil_of_le (by omega), List.drop_eq_nil_of_le (by omega)]; simp [List.getD, h]
def shBs (neg : Bool) (i : Sid) (l : List Nat) : List (List PV) := [[.bool neg, .sl i 1 (u32s l)], [.bool false, .sl ⟨0, 0, 0⟩ 1 []]]
def shlI (neg : Bool) (ia : Sid) (a : List Nat) (n m q r : Nat) (k : Nat) (s : St) : Prop :=
  ∃ (i c g nx : Nat) (out : List Nat), i + k = a.length ∧ At s 131 (shBs neg ia a) nx [(1, .int .i64 m), (2, .box 0 0), (4, .box 1 0), (6, .sl ⟨n, g, 0⟩ 1 (u32s out)), (7, .int .u64 c), (44, .sl ia 1 (u32s a)), (45, .int .i64 a.length), (46, .int .i64 i)] ∧ tipOf s.tips g n = some (q + i) ∧ 0 < g ∧ g < nx ∧ n < nx ∧ out.length = q + i ∧ Lim out ∧ c < 2 ^ r ∧ val out + 4294967296 ^ (q + i) * c = 4294967296 ^ q * (val (a.take i) * 2 ^ r)
def shrI (neg : Bool) (ia il : Sid) (a l : List Nat) (n m r : Nat) (k : Nat) (s : St) : Prop :=
  ∃ (i g nx : Nat) (out : List Nat), i + k = l.length ∧ At s 131 (shBs neg ia a) nx [(1, .int .i64 m), (2, .box 0 0), (4, .box 1 0), (11, .sl il 1 (u32s l)), (12, .sl ⟨n, g, 0⟩ 1 (u32s out)), (93, .int .i64 l.length), (94, .int .i64 i)] ∧ tipOf s.tips g n = some i ∧ 0 < g ∧ g < nx ∧ n < nx ∧ out.length = i ∧ Lim out ∧ val out + 4294967296 ^ i * (val (l.drop i) / 2 ^ r) = val l / 2 ^ r

set_option maxHeartbeats 2000000 in
theorem Shift_call {n : Nat} (hn : 0 < n) (na : Bool) (ia : Sid) (a : List Nat) (ha : a.length < 35184372088800) (la : Lim a) (b : Int) (hb : -9223372036854775808 ≤ b ∧ b < 9223372036854775808) {Q : PV → Nat → List Nat → Prop}
    (h0 : rightW na a = false → Q (.tup [W false ⟨0, 0, 0⟩ [], .int .i64 1]) n [])
    (h1 : rightW na a = true → (b < -16384 ∨ 16384 < b) → Q (.tup [W false ⟨0, 0, 0⟩ [], .int .i64 2]) n [])
    (hQ : rightW na a = true → (-16384 ≤ b ∧ b ≤ 16384) → ∀ (i : Sid) (n' : Nat), n ≤ n' → newSid n n' i → Q (.tup [W (ansN (shZ (numW na a) b)) i (ansL (shZ (numW na a) b)), .int .i64 (ansE (shZ (numW na a) b))]) n' []) : PCall Tryz.prog 45 [W na ia a, .int .i64 b] n Q := by
  refine of45 hn ?_
  simp (disch := omega) [c45]
  refine CallK.of (by simp) (Check_call hn na ia a (by omega) ?_)
  by_cases hr : rightW na a = true
  · by_cases hb1 : b < -16384
    · have := h1 hr (.inl hb1)
      simp only [W] at this
      simpa (disch := omega) [hr, hb1] using this
    by_cases hb2 : 16384 < b
    · have := h1 hr (.inr hb2)
      simp only [W] at this
      simpa (disch := omega) [hr, hb1, hb2] using this
    replace hQ := hQ hr (by omega)
    clear h0 h1
    have hra := (rightW_top hr).2.1
    generalize hz : shZ (numW na a) b = z at hQ
    by_cases ha0 : a = []
    · have := hQ ⟨0, 0, 0⟩ n (by omega) (.inl rfl)
      subst ha0
      have hz0 : z = 0 := by rw [← hz]; simp [numW, shZ_zero]
      subst hz0
      simp [W, ansN, ansL, ansE, big, dig_zero] at this
      simpa (disch := omega) [hr, hb1, hb2] using this
    have hap : 0 < a.length := List.length_pos_iff.2 ha0
    have hza := shZ_abs (numW na a) b
    rw [hz, numW_abs] at hza
    have hzs : z.natAbs ≠ 0 → na = decide (z < 0) := by
      intro h
      rw [← hz] at h ⊢
      rw [← shZ_sign _ _ h]
      obtain ⟨x, hx1, hx2⟩ := right_Z hr la
      rw [hx1, hx2, numW_dig]
    by_cases hb3 : 0 ≤ b
    · obtain ⟨m, rfl⟩ : ∃ m : Nat, b = m := ⟨b.toNat, by omega⟩
      rw [if_pos hb3] at hza
      simp only [Int.toNat_natCast] at hza
      obtain ⟨q, hq⟩ : ∃ q, q = m / 32 := ⟨_, rfl⟩
      obtain ⟨r, hr0⟩ : ∃ r, r = m % 32 := ⟨_, rfl⟩
      have hr32 : r < 32 := by omega
      have hmq : m = 32 * q + r := by omega
      have q1 : (m : Int).tdiv 32 = (q : Int) := by rw [Int.tdiv_eq_ediv_of_nonneg (by omega)]; omega
      have q2 : (m : Int) / 32 = (q : Int) := by omega
      have r1 : (m : Int).tmod 32 = (r : Int) := by rw [Int.tmod_eq_emod_of_nonneg (by omega)]; omega
      have r2 : (m : Int) % 32 = (r : Int) := by omega
      have hPle : 2 ^ r ≤ 2147483648 := Nat.pow_le_pow_right (n := 2) (by omega) (show r ≤ 31 by omega)
      have hPpos : 0 < 2 ^ r := Nat.pos_of_ne_zero (by simp)
      simp (disch := omega) [hr, hb1, hb2, ha0, q1, q2]
      refine ⟨by omega, by omega, ?_⟩
      refine GO_loopN (shlI na ia a n m q r) a.length ⟨0, 0, n, n + 1, List.replicate q 0, by omega, by simp [At, shBs], by simp, by omega, by omega, by omega, by simp, Lim.replicate _, hPpos, by simp [val_replicate]⟩ ?_
      rintro k s ⟨i, c, g, nx, out, hi, ⟨e1, e2, e3, e4, e5⟩, ht, hg, hgx, hnx, hol, lo, hc, hv⟩
      simp at e5
      obtain ⟨e5, e6, e7, e8, e9, e10, e11, e12⟩ := e5
      unfold shBs at e2
      by_cases hk : i < a.length
      · have hy := la.get hk
        obtain ⟨y, hy0⟩ : ∃ y, y = a[i] := ⟨_, rfl⟩
        obtain ⟨P, hP0⟩ : ∃ P, P = 2 ^ r := ⟨_, rfl⟩
        obtain ⟨w, hw0⟩ : ∃ w, w = y * P := ⟨_, rfl⟩
        have hwl : w ≤ 4294967295 * P := by rw [hw0]; exact Nat.mul_le_mul_right _ (by omega)
        rw [← hP0] at hPle hPpos hc
        obtain ⟨t, ht0⟩ : ∃ t, t = w + c := ⟨_, rfl⟩
        obtain ⟨l0, hl0⟩ : ∃ l0, l0 = t % 4294967296 := ⟨_, rfl⟩
        obtain ⟨d, hd0⟩ : ∃ d, d = t / 4294967296 := ⟨_, rfl⟩
        have hshl : binPV Tryz.prog .shl 48 (.int .u64 (y : Int)) (.int .i64 (r : Int)) = some (.int .u64 (w : Int)) := by
          rw [binPV_shl, if_neg (by omega), bits_u64, Int.toNat_natCast, Nat.min_eq_left (by omega), show (y : Int) * 2 ^ r = (w : Int) by rw [hw0, hP0]; simp, wrap_u64_nat _ (by omega)]
        have hor := binPV_or_high (P := Tryz.prog) (t := 48) (a := c) (b := w) (k := r) (c := t) (d := y) (by omega) (by rw [hw0, hP0, Nat.mul_comm]) ht0 (by omega)
        have hlo : IntKind.u32.wrap (t : Int) = (l0 : Int) := by rw [wrap_u32_eq]; omega
        have hhi : (t : Int) / 4294967296 = (d : Int) := by omega
        simp (disch := omega) [-binPV_or, -binPV_shl, -wrap_u32_nat, -wrap_u32_at, c45L0, e1, e2, e3, e4, e5, e6, e7, e8, e9, e10, e11, e12, hk, ← hy0, r1, r2, hshl, hor, hlo, hhi, ht, hol]
        refine ⟨by omega, k - 1, by omega, i + 1, d, nx + 1, nx + 2, out ++ [l0], by omega, ?_, ?_, by omega, by omega, by omega, by simp [hol]; omega, lo.append (.one (by omega)), by omega, ?_⟩
        · simp [At, shBs, e1, e2, e3, e4, e5, e6, e7, e8, e9, e10, e11, e12]
        · simp [e3]; omega
        · have hst : l0 + 4294967296 * d = w + c := by omega
          have := shl_step hst hw0 hv
          rw [val_append, val_take_succ, hol, ← Nat.add_assoc q i 1, Nat.pow_succ, Nat.add_mul, Nat.mul_add]
          simp only [List.getD, List.getElem?_eq_getElem hk, Option.getD_some, ← hy0, ← hP0, val_cons, val_nil, Nat.mul_zero, Nat.add_zero]
          rw [← hP0] at this
          rw [this, Nat.pow_add, Nat.mul_assoc, Nat.mul_assoc]
      · have hia2 : i = a.length := by omega
        subst hia2
        have hc32 : c < 4294967296 := by omega
        have hwc : IntKind.u32.wrap (c : Int) = (c : Int) := by rw [wrap_u32_eq]; omega
        rw [List.take_of_length_le (by omega)] at hv
        simp (disch := omega) [-wrap_u32_nat, -wrap_u32_at, c45L0, c45R0, e1, e2, e3, e4, e5, e6, e7, e8, e9, e10, e11, e12, hk, hwc, ht, hol]
        refine ⟨by omega, ?_⟩
        have hlo2 : Lim (out ++ [c]) := lo.append (.one hc32)
        have hvv : val (out ++ [c]) = z.natAbs := by
          rw [val_append, hol, val_cons, val_nil, Nat.mul_zero, Nat.add_zero, hv, hza, hmq, ← pow_split, Nat.mul_left_comm]
        refine CallK.of (by simp) (of_call' (by omega) na _ (out ++ [c]) (by simp; omega) hlo2 z hvv (by rw [hvv]; exact hzs) fun i' hi' => ?_)
        have := hQ i' (nx + 2) (by omega) (by rcases hi' with e | e; exact .inl e; subst e; exact .inr ⟨by simp, by simp; omega⟩)
        simp only [W] at this
        simpa (disch := omega) [e1, e2, e3, e4, e5, e6, e7, e8, e9, e10, e11, e12] using ⟨by omega, this⟩
    · obtain ⟨m, hm⟩ : ∃ m : Nat, b = -(m : Int) := ⟨(-b).toNat, by omega⟩
      subst hm
      rw [if_neg hb3, Int.neg_neg, Int.toNat_natCast] at hza
      obtain ⟨q, hq⟩ : ∃ q, q = m / 32 := ⟨_, rfl⟩
      obtain ⟨r, hr0⟩ : ∃ r, r = m % 32 := ⟨_, rfl⟩
      have hr32 : r < 32 := by omega
      have hmq : m = 32 * q + r := by omega
      have q1 : (m : Int).tdiv 32 = (q : Int) := by rw [Int.tdiv_eq_ediv_of_nonneg (by omega)]; omega
      have q2 : (m : Int) / 32 = (q : Int) := by omega
      have r1 : (m : Int).tmod 32 = (r : Int) := by rw [Int.tmod_eq_emod_of_nonneg (by omega)]; omega
      have r2 : (m : Int) % 32 = (r : Int) := by omega
      have hwm : IntKind.i64.wrap (0 - -(m : Int)) = (m : Int) := wrap_i64_is (by omega) (by omega)
      have hwm2 : IntKind.i64.wrap (m : Int) = (m : Int) := wrap_i64_is (by omega) (by omega)
      have hm0 : ¬ m = 0 := by omega
      have hPpos : 0 < 2 ^ r := Nat.pos_of_ne_zero (by simp)
      have hvq : val a / 4294967296 ^ q = val (a.drop q) := by
        have h2 := val_split a q
        have h3 := val_lt (la.take q)
        have h4 : 4294967296 ^ (a.take q).length ≤ 4294967296 ^ q := Nat.pow_le_pow_right (by omega) (by simp; omega)
        rw [h2, Nat.add_mul_div_left _ _ (Nat.pos_of_ne_zero (by simp)), Nat.div_eq_of_lt (by omega), Nat.zero_add]
      have hzq : z.natAbs = val (a.drop q) / 2 ^ r := by rw [hza, hmq, ← pow_split, ← Nat.div_div_eq_div_mul, hvq]
      by_cases hql : a.length ≤ q
      · have := hQ ⟨0, 0, 0⟩ n (by omega) (.inl rfl)
        have hz0 : z = 0 := by
          rw [List.drop_eq_nil_of_le hql] at hzq
          simp at hzq; exact hzq
        subst hz0
        simp [W, ansN, ansL, ansE, big, dig_zero] at this
        simpa (disch := omega) [c45R2, hr, hb1, hb2, hb3, ha0, hm0, hwm, hwm2, q1, q2, hql] using this
      · obtain ⟨l, hl⟩ : ∃ l, l = a.drop q := ⟨_, rfl⟩
        have hll : l.length = a.length - q := by rw [hl]; simp
        have llim : Lim l := hl ▸ la.drop q
        rw [← hl] at hzq
        have htk : List.take (a.length - q) l = l := List.take_of_length_le (by omega)
        simp (disch := omega) [c45R2, hr, hb1, hb2, hb3, ha0, hm0, hwm, hwm2, q1, q2, hql, ← hl, htk]
        refine ⟨by omega, ?_⟩
        refine GO_loopN (shrI na ia ⟨ia.f, ia.g, ia.off + q⟩ a l n m r) l.length ⟨0, n, n + 1, [], by omega, by simp [At, shBs, hll], by simp, by omega, by omega, by omega, by simp, .nil, by simp⟩ ?_
        rintro k s ⟨i, g, nx, out, hi, ⟨e1, e2, e3, e4, e5⟩, ht, hg, hgx, hnx, hol, lo, hv⟩
        simp at e5
        obtain ⟨e5, e6, e7, e8, e9, e10, e11⟩ := e5
        unfold shBs at e2
        by_cases hk : i < l.length
        · have hx := llim.getD i
          have hy := llim.getD (i + 1)
          have hd := getD_drop l i
          have hR := getD_drop l (i + 1)
          obtain ⟨x, hx0⟩ : ∃ x, x = l[i] := ⟨_, rfl⟩
          have hxx : l.getD i 0 = x := by simp [List.getD, hk, hx0]
          rw [hxx] at hx hd
          obtain ⟨y, hy0⟩ : ∃ y, y = l.getD (i + 1) 0 := ⟨_, rfl⟩
          rw [← hy0] at hy hR
          obtain ⟨t, ht0⟩ : ∃ t, t = x + 4294967296 * y := ⟨_, rfl⟩
          have hto := ht0.symm
          obtain ⟨w, hw0⟩ : ∃ w, w = t / 2 ^ r := ⟨_, rfl⟩
          have hwl : w ≤ t := hw0 ▸ Nat.div_le_self _ _
          obtain ⟨o, ho0⟩ : ∃ o, o = t / 2 ^ r % 4294967296 := ⟨_, rfl⟩
          have hshr : binPV Tryz.prog .shr 48 (.int .u64 (t : Int)) (.int .i64 (r : Int)) = some (.int .u64 (w : Int)) := by
            rw [binPV_shr, if_neg (by omega), bits_u64, Int.toNat_natCast, Nat.min_eq_left (by omega), hw0]
            have : ((2 : Int) ^ r) = ((2 ^ r : Nat) : Int) := by simp
            rw [this, Int.fdiv_eq_ediv_of_nonneg _ (by omega)]; rfl
          have hlo : IntKind.u32.wrap (w : Int) = (o : Int) := by rw [wrap_u32_eq]; omega
          by_cases hk1 : i + 1 < l.length
          · have hyy : y = l[i + 1] := by simp [hy0, List.getD, hk1]
            have hk1i : (i : Int) + 1 < (l.length : Int) := by omega
            have hin : ((i : Int) + 1).toNat = i + 1 := by omega
            have hi0 : (0 : Int) ≤ (i : Int) + 1 := by omega
            obtain ⟨v, hv0⟩ : ∃ v, v = y * 4294967296 := ⟨_, rfl⟩
            have hsh : (y : Int) * 4294967296 = (v : Int) := by omega
            have hor := binPV_or_low (P := Tryz.prog) (t := 48) (a := x) (b := v) (k := 32) (c := t) (d := y) (by omega) (by omega) (by omega) (by omega)
            simp (disch := omega) [-binPV_or, -binPV_shr, -wrap_u32_nat, -wrap_u32_at, c45L1, e1, e2, e3, e4, e5, e6, e7, e8, e9, e10, e11, hk, hk1, hk1i, hin, hi0, ← hx0, ← hyy, r1, r2, hsh, hor, hshr, hlo, ht, hol]
            refine ⟨by omega, k - 1, by omega, i + 1, nx + 1, nx + 2, out ++ [o], by omega, ?_, ?_, by omega, by omega, by omega, by simp [hol], lo.append (.one (by omega)), ?_⟩
            · simp [At, shBs, e1, e2, e3, e4, e5, e6, e7, e8, e9, e10, e11]
            · simp [e3]
            · have hs := shr_step (x := x) (r0 := y) (R' := val (l.drop (i + 2))) (P := 2 ^ r) (T := 2 ^ (32 - r)) (by rw [← Nat.pow_add, show r + (32 - r) = 32 by omega]) (by omega) hPpos
              rw [hR] at hd
              rw [hd, hs, ← hR, hto] at hv
              rw [val_append, hol, val_cons, val_nil, Nat.mul_zero, Nat.add_zero, Nat.pow_succ, ← hv, ← ho0]
              rw [Nat.mul_add, Nat.mul_assoc, Nat.add_assoc]
          · have hyy : y = 0 := by simp [hy0, List.getD, hk1]
            have hk1i : ¬ (i : Int) + 1 < (l.length : Int) := by omega
            have htx : t = x := by omega
            subst htx
            simp (disch := omega) [-binPV_or, -binPV_shr, -wrap_u32_nat, -wrap_u32_at, c45L1, e1, e2, e3, e4, e5, e6, e7, e8, e9, e10, e11, hk, hk1, hk1i, ← hx0, r1, r2,  hshr, hlo, ht, hol]
            refine ⟨by omega, k - 1, by omega, i + 1, nx + 1, nx + 2, out ++ [o], by omega, ?_, ?_, by omega, by omega, by omega, by simp [hol], lo.append (.one (by omega)), ?_⟩
            · simp [At, shBs, e1, e2, e3, e4, e5, e6, e7, e8, e9, e10, e11]
            · simp [e3]
            · have hs := shr_step (x := t) (r0 := y) (R' := val (l.drop (i + 2))) (P := 2 ^ r) (T := 2 ^ (32 - r)) (by rw [← Nat.pow_add, show r + (32 - r) = 32 by omega]) (by omega) hPpos
              rw [hR] at hd
              rw [hd, hs, ← hR, hto] at hv
              rw [val_append, hol, val_cons, val_nil, Nat.mul_zero, Nat.add_zero, Nat.pow_succ, ← hv, ← ho0]
              rw [Nat.mul_add, Nat.mul_assoc, Nat.add_assoc]
        · have hia2 : i = l.length := by omega
          rw [List.drop_eq_nil_of_le (by omega)] at hv
          simp at hv
          simp (disch := omega) [c45L1, c45R1, e1, e2, e3, e4, e5, e6, e7, e8, e9, e10, e11, hk]
          refine CallK.of (by simp) (of_call' (by omega) na _ out (by omega) lo z (by omega) (by rw [hv, ← hzq]; exact hzs) fun i' hi' => ?_)
          have := hQ i' nx (by omega) (by rcases hi' with e | e; exact .inl e; subst e; exact .inr ⟨by simp, by simp; omega⟩)
          simp only [W] at this
          simpa (disch := omega) [e1, e2, e3, e4, e5, e6, e7, e8, e9, e10, e11] using ⟨by omega, this⟩
  · rw [Bool.not_eq_true] at hr
    have := h0 hr
    simp only [W] at this
    simpa [hr] using this
end Go.Proofs.YtphndngifjgeoaaGreatDoor

/-! CtO: What the functions of layer 1 do, by value: the reference's shifts. -/
set_option linter.unusedVariables false
set_option linter.unusedSimpArgs false
namespace Go.Proofs.YtphndngifjgeoaaGreatDoor
open Go.Proofs

theorem numW_sign (na : Bool) (a : List Nat) (h : val a ≠ 0) : na = decide (numW na a < 0) := by
  unfold numW; cases na <;> simp; omega

theorem Double_call {n : Nat} (hn : 0 < n) (na : Bool) (ia : Sid) (a : List Nat) (ha : a.length < 35184372088000) (la : Lim a) (z : Int) (hz : numW na a * 2 = z) {Q : PV → Nat → List Nat → Prop}
    (hQ : ∀ (i : Sid) (n' : Nat), n ≤ n' → newSid n n' i → Q (W (decide (z < 0)) i (dig z.natAbs)) n' []) : PCall Tryz.prog 94 [W na ia a] n Q := by
  simp only [W] at hQ
  refine of94 hn ?_
  simp (disch := omega) [c94]
  refine CallK.of (by simp) (plus_call hn ia ia a a (by omega) (by omega) la la fun i l n' h1 h2 h3 h4 h5 h6 => ?_)
  simp (disch := omega) [h1]
  refine CallK.of (by simp) (Made_call' (by omega) na i l (by omega) h4 z ?_ ?_ fun i' hi' => ?_)
  · rw [h5, ← hz, Int.natAbs_mul, numW_abs]; simp; omega
  · rw [h5, ← hz]; intro hv; exact (numW_sign na a (by omega)).trans (by rw [decide_eq_decide]; omega)
  · have := hQ i' n' h1 (by rcases hi' with e | e; exact .inl e; subst e; exact .inr ⟨h2, h3⟩)
    simpa (disch := omega) [h1] using this

def halfI (na : Bool) (ia : Sid) (a : List Nat) (n : Nat) (k : Nat) (s : St) : Prop :=
  ∃ (i : Nat) (o : List Nat), i + k = a.length ∧ At s 37 [[.bool na, .sl ia 1 (u32s a)], [.bool false, .sl ⟨0, 0, 0⟩ 1 []]] (n + 1) [(1, .box 0 0), (2, .box 1 0), (3, .sl ⟨n, n, 0⟩ 1 (u32s o)), (4, .int .i64 i)] ∧ s.n0 = n ∧ o.length = a.length ∧ Lim o ∧ val (o.take i) + 4294967296 ^ i * (val (a.drop i) / 2) = val a / 2
theorem Half_call {n : Nat} (hn : 0 < n) (na : Bool) (ia : Sid) (hia : ia.f < n) (a : List Nat) (ha : a.length < 35184372088000) (la : Lim a) (z : Int) (hz : (numW na a).tdiv 2 = z) {Q : PV → Nat → List Nat → Prop}
    (hQ : ∀ (i : Sid) (n' : Nat), n ≤ n' → newSid n n' i → Q (W (decide (z < 0)) i (dig z.natAbs)) n' []) : PCall Tryz.prog 52 [W na ia a] n Q := by
  simp only [W] at hQ
  have hza : z.natAbs = val a / 2 := by rw [← hz, Int.natAbs_tdiv, numW_abs]; rfl
  have hzs : val a / 2 ≠ 0 → na = decide (z < 0) := by
    intro h
    rw [← hza] at h
    have e : (numW na a).tdiv 2 = shZ (numW na a) (-1) := rfl
    rw [e] at hz
    rw [← hz] at h ⊢
    rw [← shZ_sign _ _ h]
    exact numW_sign na a (by rw [shZ_abs, numW_abs] at h; simp at h; omega)
  have hi2 : ¬ ia.f = n ∧ ¬ n = 0 := by omega
  refine of52 hn ?_
  simp (disch := omega) [c52]
  refine ⟨by omega, ?_⟩
  refine GO_loopN (halfI na ia a n) a.length ⟨0, List.replicate a.length 0, by omega, by simp [At], by simp, by simp, Lim.replicate _, by simp⟩ ?_
  rintro k s ⟨i, o, hi, ⟨e1, e2, e3, e4, e5⟩, e0, hol, lo, hv⟩
  simp at e5
  obtain ⟨e5, e6, e7, e8⟩ := e5
  by_cases hk : i < a.length
  · have hx := la.getD i
    have hy := la.getD (i + 1)
    have hd := getD_drop a i
    have hd2 := getD_drop a (i + 1)
    generalize hxx : a.getD i 0 = x at *
    generalize hyy : a.getD (i + 1) 0 = y at *
    obtain ⟨t, ht⟩ : ∃ t, t = (y % 2 * 4294967296 + x) / 2 := ⟨_, rfl⟩
    obtain ⟨w, hw⟩ : ∃ w, w = y % 2 * 4294967296 := ⟨_, rfl⟩
    have hw1 : IntKind.u64.wrap ((y : Int).tmod 2 * 4294967296) = (w : Int) := by rw [Int.tmod_eq_emod_of_nonneg (by omega), wrap_u64_eq]; omega
    have hw2 : ((w : Int) + x).tdiv 2 = (t : Int) := by rw [Int.tdiv_eq_ediv_of_nonneg (by omega)]; omega
    have ht1 : IntKind.u32.wrap (t : Int) = (t : Int) := by rw [wrap_u32_eq]; omega
    have hio : i < o.length := by omega
    simp (disch := omega) [c52L0, e0, e1, e2, e3, e4, e5, e6, e7, e8, hk, hio]
    refine CallK.of (by simp) (limb_call (by omega) ia a (by omega) (i + 1) la ?_)
    rw [hyy]
    simp (disch := omega) [e0, e1, e2, e3, e4, e5, e6, e7, e8, hk, hio]
    refine CallK.of (by simp) (limb_call (by omega) ia a (by omega) i la ?_)
    rw [hxx]
    simp (disch := omega) [e0, e1, e2, e3, e4, e5, e6, e7, e8, hk, hio, hi2, hw1, hw2, ht1]
    refine ⟨k - 1, by omega, i + 1, o.set i t, by omega, ?_, by simp [e0], by simp [hol], lo.set _ (by omega), ?_⟩
    · refine ⟨by simp [e1], by simp (disch := omega) [e2, hi2], by simp [e3], by simp [e0, e4], ?_⟩
      intro pp hpp
      simp only [List.mem_cons, List.not_mem_nil, or_false] at hpp
      rcases hpp with e | e | e | e <;> subst e <;> simp (disch := omega) [e5, e6, e7, e8, hi2]
    · have ht2 : (o.set i t).take (i + 1) = o.take i ++ [t] := by
        rw [List.take_succ_eq_append_getElem (by simp; omega), List.take_set_of_le (Nat.le_refl _)]
        simp
      rw [ht2, val_append, List.length_take, Nat.min_eq_left (by omega), val_cons, val_nil, Nat.mul_zero, Nat.add_zero, Nat.pow_succ, ← hv, Nat.mul_assoc, Nat.add_assoc, ← Nat.mul_add]
      congr 2
      omega
  · have hia2 : i = a.length := by omega
    rw [List.take_of_length_le (by omega), List.drop_eq_nil_of_le (by omega)] at hv
    simp at hv
    simp (disch := omega) [c52L0, c52R0, e0, e1, e2, e3, e4, e5, e6, e7, e8, hk]
    refine CallK.of (by simp) (Made_call' (by omega) na ⟨n, n, 0⟩ o (by omega) lo z (by omega) (by rw [hv]; exact hzs) fun i' hi' => ?_)
    have := hQ i' (n + 1) (by omega) (by rcases hi' with e | e; exact .inl e; subst e; exact .inr ⟨by simp, by simp⟩)
    simpa (disch := omega) [e0, e1, e2, e3, e4, e5, e6, e7, e8] using this

theorem ansIs_ans (z : Int) : ansIs true z (ansN z) (ansL z) (ansE z) := ⟨by simp, by simp, by simp⟩
@[simp] theorem poison_nil1 (f' g off f z : Nat) (h : ¬ f' = f) : (PV.sl ⟨f', g, off⟩ z []).poison [f] = .sl ⟨f', g, off⟩ z [] := by simp [PV.poison, PV.poisonL, h]
/-! ### the reference's shift -/
theorem tdiv_tdiv_nat (x : Int) (a b : Nat) : (x.tdiv a).tdiv b = x.tdiv ((a * b : Nat) : Int) := by
  have key : ∀ n : Nat, ((n : Int).tdiv a).tdiv b = (n : Int).tdiv ((a * b : Nat) : Int) := fun n => by
    rw [← Int.ofNat_tdiv, ← Int.ofNat_tdiv, ← Int.ofNat_tdiv, Nat.div_div_eq_div_mul]
  by_cases h : 0 ≤ x
  · obtain ⟨n, rfl⟩ : ∃ n : Nat, x = n := ⟨x.toNat, by omega⟩
    exact key n
  · obtain ⟨n, rfl⟩ : ∃ n : Nat, x = -(n : Int) := ⟨(-x).toNat, by omega⟩
    rw [Int.neg_tdiv, Int.neg_tdiv, Int.neg_tdiv, key]
theorem pow_cast (k : Nat) : (2 : Int) ^ k = ((2 ^ k : Nat) : Int) := by simp
theorem shZ_up32 {x m : Int} (h : 32 ≤ m) : shZ (x * 4294967296) (m - 32) = shZ x m := by
  unfold shZ
  rw [if_pos (by omega), if_pos (by omega), show m.toNat = 32 + (m - 32).toNat by omega, Int.pow_add, Int.mul_assoc]; rfl
theorem shZ_up1 {x m : Int} (h : 0 < m) : shZ (x * 2) (m - 1) = shZ x m := by
  unfold shZ
  rw [if_pos (by omega), if_pos (by omega), show m.toNat = 1 + (m - 1).toNat by omega, Int.pow_add, Int.mul_assoc]; rfl
theorem shZ_down (x : Int) (k m : Nat) (hk : k ≤ m) : shZ (x.tdiv (2 ^ k)) (-((m - k : Nat) : Int)) = x.tdiv (2 ^ m) := by
  have key : ∀ j : Nat, shZ (x.tdiv (2 ^ k)) (-(j : Int)) = x.tdiv (2 ^ (k + j)) := fun j => by
    unfold shZ
    by_cases hj : j = 0
    · subst hj; simp
    · rw [if_neg (by omega), Int.neg_neg, Int.toNat_natCast, pow_cast, pow_cast, pow_cast, tdiv_tdiv_nat, Nat.pow_add]
  rw [key, show k + (m - k) = m by omega]
theorem shZ_down32 {x m : Int} (h : m ≤ -32) : shZ (x.tdiv 4294967296) (m + 32) = shZ x m := by
  have := shZ_down x 32 (-m).toNat (by omega)
  rw [show -(((-m).toNat - 32 : Nat) : Int) = m + 32 by omega] at this
  rw [show (2 : Int) ^ 32 = 4294967296 from rfl] at this
  rw [this]; unfold shZ; rw [if_neg (by omega)]
theorem shZ_down1 {x m : Int} (h : m < 0) : shZ (x.tdiv 2) (m + 1) = shZ x m := by
  have := shZ_down x 1 (-m).toNat (by omega)
  rw [show -(((-m).toNat - 1 : Nat) : Int) = m + 1 by omega] at this
  rw [show (2 : Int) ^ 1 = 2 from rfl] at this
  rw [this]; unfold shZ; rw [if_neg (by omega)]

theorem sz_of_shZ {x m z : Int} {k : Nat} (h : shZ x m = z) (hz : sz z k) (hm : 0 ≤ m) : sz x k := by
  have := shZ_abs x m
  rw [h, if_pos hm] at this
  have h2 : x.natAbs * 1 ≤ x.natAbs * 2 ^ m.toNat := Nat.mul_le_mul_left _ (Nat.pos_of_ne_zero (by simp))
  exact hz.le (by omega)
theorem shZ_sz {x m z : Int} {k j : Nat} (h : shZ x m = z) (hx : sz x k) (hm : m ≤ 32 * j) : sz z (k + j) := by
  have h1 := shZ_abs x m
  rw [h] at h1
  by_cases hm0 : 0 ≤ m
  · rw [if_pos hm0] at h1
    have h2 : 2 ^ m.toNat ≤ 4294967296 ^ j := by
      have e : (4294967296 : Nat) ^ j = 2 ^ (32 * j) := by rw [Nat.pow_mul]
      rw [e]
      exact Nat.pow_le_pow_right (by omega) (by omega)
    unfold sz at *
    rw [h1, Nat.pow_add]
    exact Nat.mul_lt_mul_of_lt_of_le hx h2 (Nat.pos_of_ne_zero (by simp))
  · rw [if_neg hm0] at h1
    have h3 := Nat.div_le_self x.natAbs (2 ^ (-m).toNat)
    exact (hx.le (by omega)).mono (by omega)
theorem dig_ne {x : Int} (h : ¬ x = 0) : 0 < (dig x.natAbs).length ∧ ¬ dig x.natAbs = [] := by
  have : ¬ dig x.natAbs = [] := fun e => by have := dig_eq_nil.1 e; omega
  exact ⟨List.length_pos_iff.2 this, this⟩
def RS (n : Nat) (z x m : Int) (s : St) : Prop :=
  ∃ (i : Sid) (nx : Nat), At s 63 [[.bool (decide (x < 0)), .sl i 1 (u32s (dig x.natAbs))], [.bool false, .sl ⟨0, 0, 0⟩ 1 []]] nx [(1, .int .i64 m), (2, .box 0 0), (4, .box 1 0)] ∧ n ≤ nx ∧ i.f < nx ∧ 0 < nx ∧ -16384 ≤ m ∧ m ≤ 16384 ∧ shZ x m = z ∧ sz x 1100 ∧ sz z 1100
section
variable {n : Nat} {z : Int} {Q : PV → Nat → List Nat → Prop} (hQ : ∀ (i : Sid) (n' : Nat), n ≤ n' → Q (.agg [.bool (decide (z < 0)), .sl i 1 (u32s (dig z.natAbs))]) n' [])
include hQ
theorem RS_0 {x m : Int} {s : St} (h : RS n z x m s) (h0 : m = 0 ∨ x = 0) : GO Tryz.prog c80R0 (fin Tryz.prog [.cell 4 27] n Q) s := by
  obtain ⟨i, nx, ⟨e1, e2, e3, e4, e5⟩, hnx, hix, hx0, hm1, hm2, hz, hx, hs⟩ := h
  simp at e5
  obtain ⟨e5, e6, e7⟩ := e5
  have hxz : x = z := by
    rcases h0 with e | e
    · subst e; rw [← hz, shZ_none]
    · subst e; rw [← hz, shZ_zero]
  subst hxz
  have := hQ i nx hnx
  simpa (disch := omega) [c80R0, e1, e2, e3, e4, e5, e6, e7] using ⟨by omega, this⟩
theorem RS_1 {x m : Int} {s : St} (h : RS n z x m s) (h0 : m ≤ 0 ∨ x = 0) : GO Tryz.prog c80R1 (fin Tryz.prog [.cell 4 27] n Q) s := by
  simp only [c80R1]
  simp (disch := omega) []
  refine GO_loopN (fun k s => ∃ x m, RS n z x m s ∧ (m ≤ 0 ∨ x = 0) ∧ k = m.natAbs) m.natAbs ⟨x, m, h, h0, rfl⟩ ?_
  clear h h0
  rintro k s ⟨x, m, h, h0, rfl⟩
  have H := h
  obtain ⟨i, nx, ⟨e1, e2, e3, e4, e5⟩, hnx, hix, hx0, hm1, hm2, hz, hx, hs⟩ := h
  simp at e5
  obtain ⟨e5, e6, e7⟩ := e5
  have hl := hx.len
  by_cases hm : m < 0
  · by_cases hxz : x = 0
    · have hd : dig x.natAbs = [] := by subst hxz; exact dig_zero
      simp (disch := omega) [c80L3, e1, e2, e3, e4, e5, e6, e7, hm, hd]
      exact RS_0 hQ (x := x) (m := m) ⟨i, nx, by simp [At, e1, e2, e3, e4, e5, e6, e7, hd], hnx, hix, hx0, hm1, hm2, hz, hx, hs⟩ (.inr hxz)
    · obtain ⟨hd, hd2⟩ := dig_ne hxz
      have hw : IntKind.i64.wrap (m + 1) = m + 1 := wrap_i64_is rfl (by omega)
      simp (disch := omega) [c80L3, e1, e2, e3, e4, e5, e6, e7, hm, hd, hd2]
      obtain ⟨y, hy⟩ : ∃ y, y = x.tdiv 2 := ⟨_, rfl⟩
      have hys : y.natAbs ≤ x.natAbs := by rw [hy, Int.natAbs_tdiv]; exact Nat.div_le_self _ _
      refine CallK.of (by simp) (Half_call (by omega) _ i hix _ (by omega) (Lim.dig _) y (by rw [numW_dig, hy]) fun i' n' h1 h2 => ?_)
      simp (disch := omega) [e1, e2, e3, e4, e5, e6, e7, hw]
      exact ⟨(m + 1).natAbs, by omega, y, m + 1, ⟨i', n', by simp [At, e1, e2, e3, e4, e5, e6, e7], by omega, newSid_lt h2 (by omega), by omega, by omega, by omega, by rw [hy, shZ_down1 hm, hz], hx.le hys, hs⟩, by omega, rfl⟩
  · simp (disch := omega) [c80L3, e1, e2, e3, e4, e5, e6, e7, hm]
    exact RS_0 hQ (x := x) (m := m) ⟨i, nx, by simp [At, e1, e2, e3, e4, e5, e6, e7], hnx, hix, hx0, hm1, hm2, hz, hx, hs⟩ (by omega)
theorem RS_2 {x m : Int} {s : St} (h : RS n z x m s) (h0 : m ≤ 0 ∨ x = 0) : GO Tryz.prog c80R2 (fin Tryz.prog [.cell 4 27] n Q) s := by
  simp only [c80R2]
  simp (disch := omega) []
  refine GO_loopN (fun k s => ∃ x m, RS n z x m s ∧ (m ≤ 0 ∨ x = 0) ∧ k = m.natAbs) m.natAbs ⟨x, m, h, h0, rfl⟩ ?_
  clear h h0
  rintro k s ⟨x, m, h, h0, rfl⟩
  have H := h
  obtain ⟨i, nx, ⟨e1, e2, e3, e4, e5⟩, hnx, hix, hx0, hm1, hm2, hz, hx, hs⟩ := h
  simp at e5
  obtain ⟨e5, e6, e7⟩ := e5
  have hl := hx.len
  by_cases hm : m ≤ -32
  · by_cases hxz : x = 0
    · have hd : dig x.natAbs = [] := by subst hxz; exact dig_zero
      simp (disch := omega) [c80L2, e1, e2, e3, e4, e5, e6, e7, hm, hd]
      exact RS_1 hQ (x := x) (m := m) ⟨i, nx, by simp [At, e1, e2, e3, e4, e5, e6, e7, hd], hnx, hix, hx0, hm1, hm2, hz, hx, hs⟩ (.inr hxz)
    · obtain ⟨hd, hd2⟩ := dig_ne hxz
      have hw : IntKind.i64.wrap (m + 32) = m + 32 := wrap_i64_is rfl (by omega)
      have hm' : m < 0 := by omega
      obtain ⟨l1, hl1⟩ : ∃ l1, l1 = (dig x.natAbs).tail := ⟨_, rfl⟩
      have hll : l1.length ≤ 1100 := by rw [hl1]; simp; omega
      have llm : Lim l1 := by rw [hl1, ← List.drop_one]; exact (Lim.dig _).drop 1
      simp (disch := omega) [c80L2, e1, e2, e3, e4, e5, e6, e7, hm, hd, hd2, ← hl1]
      obtain ⟨y, hy⟩ : ∃ y, y = x.tdiv 4294967296 := ⟨_, rfl⟩
      have hya : y.natAbs = x.natAbs / 4294967296 := by rw [hy, Int.natAbs_tdiv]; rfl
      have hys : y.natAbs ≤ x.natAbs := by omega
      have hsg : y.natAbs ≠ 0 → decide (x < 0) = decide (y < 0) := by
        intro h
        have e : x.tdiv 4294967296 = shZ x (-32) := rfl
        rw [hy, e] at h ⊢
        exact shZ_sign _ _ h
      have hv1 : val l1 = y.natAbs := by
        rw [hl1, dig_pos (by omega), List.tail_cons, val_dig, hya]
      refine CallK.of (by simp) (Made_call' (by omega) _ ⟨i.f, i.g, i.off + 1⟩ l1 (by omega) llm y hv1 (by rw [hv1]; exact hsg) fun i' hi' => ?_)
      simp (disch := omega) [e1, e2, e3, e4, e5, e6, e7, hw]
      exact ⟨(m + 32).natAbs, by omega, y, m + 32, ⟨i', nx, by simp [At, e1, e2, e3, e4, e5, e6, e7], by omega, by rcases hi' with e | e <;> subst e <;> simp <;> omega, by omega, by omega, by omega, by rw [hy, shZ_down32 hm, hz], hx.le hys, hs⟩, by omega, rfl⟩
  · simp (disch := omega) [c80L2, e1, e2, e3, e4, e5, e6, e7, hm]
    exact RS_1 hQ (x := x) (m := m) ⟨i, nx, by simp [At, e1, e2, e3, e4, e5, e6, e7], hnx, hix, hx0, hm1, hm2, hz, hx, hs⟩ h0
theorem RS_3 {x m : Int} {s : St} (h : RS n z x m s) : GO Tryz.prog c80R3 (fin Tryz.prog [.cell 4 27] n Q) s := by
  simp only [c80R3]
  simp (disch := omega) []
  refine GO_loopN (fun k s => ∃ x m, RS n z x m s ∧ k = m.natAbs) m.natAbs ⟨x, m, h, rfl⟩ ?_
  clear h
  rintro k s ⟨x, m, h, rfl⟩
  have H := h
  obtain ⟨i, nx, ⟨e1, e2, e3, e4, e5⟩, hnx, hix, hx0, hm1, hm2, hz, hx, hs⟩ := h
  simp at e5
  obtain ⟨e5, e6, e7⟩ := e5
  have hl := hx.len
  by_cases hm : 0 < m
  · by_cases hxz : x = 0
    · have hd : dig x.natAbs = [] := by subst hxz; exact dig_zero
      simp (disch := omega) [c80L1, e1, e2, e3, e4, e5, e6, e7, hm, hd]
      exact RS_2 hQ (x := x) (m := m) ⟨i, nx, by simp [At, e1, e2, e3, e4, e5, e6, e7, hd], hnx, hix, hx0, hm1, hm2, hz, hx, hs⟩ (.inr hxz)
    · obtain ⟨hd, hd2⟩ := dig_ne hxz
      have hw : IntKind.i64.wrap (m - 1) = m - 1 := wrap_i64_is rfl (by omega)
      simp (disch := omega) [c80L1, e1, e2, e3, e4, e5, e6, e7, hm, hd, hd2]
      obtain ⟨y, hy⟩ : ∃ y, y = x * 2 := ⟨_, rfl⟩
      have hyz : shZ y (m - 1) = z := by rw [hy, shZ_up1 hm, hz]
      refine CallK.of (by simp) (Double_call (by omega) _ i _ (by omega) (Lim.dig _) y (by rw [numW_dig, hy]) fun i' n' h1 h2 => ?_)
      simp (disch := omega) [e1, e2, e3, e4, e5, e6, e7, hw]
      exact ⟨(m - 1).natAbs, by omega, y, m - 1, ⟨i', n', by simp [At, e1, e2, e3, e4, e5, e6, e7], by omega, newSid_lt h2 (by omega), by omega, by omega, by omega, hyz, sz_of_shZ hyz hs (by omega), hs⟩, rfl⟩
  · simp (disch := omega) [c80L1, e1, e2, e3, e4, e5, e6, e7, hm]
    exact RS_2 hQ (x := x) (m := m) ⟨i, nx, by simp [At, e1, e2, e3, e4, e5, e6, e7], hnx, hix, hx0, hm1, hm2, hz, hx, hs⟩ (.inl (by omega))
theorem RS_4 {x m : Int} {s : St} (h : RS n z x m s) : GO Tryz.prog (.loop c80L0) (PExit.inBlock 0 (PExit.then (GO Tryz.prog c80R3 (fin Tryz.prog [.cell 4 27] n Q)) (fin Tryz.prog [.cell 4 27] n Q))) s := by
  refine GO_loopN (fun k s => ∃ x m, RS n z x m s ∧ k = m.natAbs) m.natAbs ⟨x, m, h, rfl⟩ ?_
  clear h
  rintro k s ⟨x, m, h, rfl⟩
  have H := h
  obtain ⟨i, nx, ⟨e1, e2, e3, e4, e5⟩, hnx, hix, hx0, hm1, hm2, hz, hx, hs⟩ := h
  simp at e5
  obtain ⟨e5, e6, e7⟩ := e5
  have hl := hx.len
  by_cases hm : 32 ≤ m
  · by_cases hxz : x = 0
    · have hd : dig x.natAbs = [] := by subst hxz; exact dig_zero
      simp (disch := omega) [c80L0, e1, e2, e3, e4, e5, e6, e7, hm, hd]
      exact RS_3 hQ (x := x) (m := m) ⟨i, nx, by simp [At, e1, e2, e3, e4, e5, e6, e7, hd], hnx, hix, hx0, hm1, hm2, hz, hx, hs⟩ 
    · obtain ⟨hd, hd2⟩ := dig_ne hxz
      have hw : IntKind.i64.wrap (m - 32) = m - 32 := wrap_i64_is rfl (by omega)
      simp (disch := omega) [c80L0, e1, e2, e3, e4, e5, e6, e7, hm, hd, hd2]
      obtain ⟨y, hy⟩ : ∃ y, y = x * 4294967296 := ⟨_, rfl⟩
      have hyz : shZ y (m - 32) = z := by rw [hy, shZ_up32 hm, hz]
      refine ⟨by omega, ?_⟩
      refine CallK.of (by simp) (Made_call' (by omega) _ _ (0 :: dig x.natAbs) (by simp; omega) (by intro w hw; rcases List.mem_cons.1 hw with e | e; omega; exact Lim.dig _ w e) y (by rw [val_cons, val_dig, hy, Int.natAbs_mul]; simp; omega) (fun _ => by rw [hy, decide_eq_decide]; omega) fun i' hi' => ?_)
      simp (disch := omega) [e1, e2, e3, e4, e5, e6, e7, hw]
      exact ⟨(m - 32).natAbs, by omega, y, m - 32, ⟨i', nx + 2, by simp [At, e1, e2, e3, e4, e5, e6, e7], by omega, by rcases hi' with e | e <;> subst e <;> simp <;> omega, by omega, by omega, by omega, hyz, sz_of_shZ hyz hs (by omega), hs⟩, rfl⟩
  · simp (disch := omega) [c80L0, e1, e2, e3, e4, e5, e6, e7, hm]
    exact RS_3 hQ (x := x) (m := m) ⟨i, nx, by simp [At, e1, e2, e3, e4, e5, e6, e7], hnx, hix, hx0, hm1, hm2, hz, hx, hs⟩ 
end
theorem RefShift_call {n : Nat} (hn : 0 < n) (x : Int) (ia : Sid) (hia : ia.f < n) (hx : sz x 512) (m : Int) (hm : -16384 ≤ m ∧ m ≤ 16384) (z : Int) (hz : shZ x m = z) {Q : PV → Nat → List Nat → Prop}
    (hQ : ∀ (i : Sid) (n' : Nat), n ≤ n' → Q (W (decide (z < 0)) i (dig z.natAbs)) n' []) : PCall Tryz.prog 80 [W (decide (x < 0)) ia (dig x.natAbs), .int .i64 m] n Q := by
  have hzs : sz z 1100 := (shZ_sz (j := 512) hz hx (by omega)).mono (by omega)
  simp only [W] at hQ
  refine of80 hn ?_
  simp (disch := omega) [c80]
  exact RS_4 hQ (x := x) (m := m) ⟨ia, n, by simp [At], by omega, hia, by omega, by omega, by omega, hz, hx.mono (by omega), hzs⟩
theorem Shift_Z {n : Nat} (hn : 0 < n) (x z b : Int) (ia : Sid) (hx : sz x 512) (hz : shZ x b = z) (hzs : sz z 512) (hb : -16384 ≤ b ∧ b ≤ 16384) {Q : PV → Nat → List Nat → Prop}
    (hQ : ∀ (i : Sid) (n' : Nat), n ≤ n' → newSid n n' i → Q (.tup [W (decide (z < 0)) i (dig z.natAbs), .int .i64 0]) n' []) : PCall Tryz.prog 45 [W (decide (x < 0)) ia (dig x.natAbs), .int .i64 b] n Q := by
  have h1 := hx.len
  have h2 := rightW_Z h1
  refine Shift_call hn _ ia _ (by omega) (Lim.dig _) b (by omega) (fun h => by rw [h2] at h; cases h) (fun _ h => by omega) (fun _ _ i n' k1 k2 => ?_)
  rw [numW_dig, hz]
  obtain ⟨e1, e2, e3⟩ := ansIs_Z (ansIs_ans z) hzs.len
  rw [e1, e2, e3]
  exact hQ i n' k1 k2
theorem shZ_back (x : Int) (m : Nat) : shZ (shZ x m) (-(m : Int)) = x := by
  have h0 : shZ x m = x * 2 ^ m := by unfold shZ; rw [if_pos (by omega), Int.toNat_natCast]
  by_cases hm : m = 0
  · subst hm; simp [shZ]
  · rw [h0]
    unfold shZ
    rw [if_neg (by omega), Int.neg_neg, Int.toNat_natCast]
    exact Int.mul_tdiv_cancel _ (by have := two_pow_pos' m; omega)
end Go.Proofs.YtphndngifjgeoaaGreatDoor
