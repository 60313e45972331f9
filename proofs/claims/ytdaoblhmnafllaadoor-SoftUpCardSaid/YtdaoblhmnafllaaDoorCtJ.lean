/- What the functions of layer 1 do, by value: small numbers, which is more, how many bits. -/
import Derived.Test.YtdaoblhmnafllaaDoorCtP
set_option linter.unusedVariables false
set_option linter.unusedSimpArgs false
namespace Go.Proofs.YtdaoblhmnafllaaDoor
open Go.Proofs

theorem wrap_i64_is {x y : Int} (h : x = y) (h1 : -9223372036854775808 ≤ x ∧ x < 9223372036854775808) : IntKind.i64.wrap x = y := by rw [wrap_i64_id x h1.1 h1.2, h]
theorem RefOf_call {n : Nat} (hn : 0 < n) (m : Int) (hm : -9223372036854775808 ≤ m) (hm' : m < 9223372036854775808) {Q : PV → Nat → List Nat → Prop}
    (hQ : ∀ (i : Sid) (n' : Nat), n ≤ n' → newSid n n' i → Q (W (decide (m < 0)) i (dig m.natAbs)) n' []) : PCall Tryd.prog 40 [.int .i64 m] n Q := by
  simp only [W] at hQ
  refine of40 hn ?_
  obtain ⟨lo, hlo0⟩ : ∃ lo, lo = m.natAbs % 4294967296 := ⟨_, rfl⟩
  obtain ⟨hi, hhi0⟩ : ∃ hi, hi = m.natAbs / 4294967296 := ⟨_, rfl⟩
  obtain ⟨v, hv0⟩ : ∃ v, v = m.natAbs := ⟨_, rfl⟩
  have hlim : Lim [lo, hi] := by intro x hx; simp at hx; omega
  have hval : val [lo, hi] = m.natAbs := by simp; omega
  have hfin : ∀ s : Sid, s.f = n → ∀ i', i' = ⟨0, 0, 0⟩ ∨ i' = s → newSid n (n + 1) i' := by
    intro s hs i' h
    rcases h with h | h
    · exact .inl h
    · subst h; exact .inr ⟨by omega, by omega⟩
  by_cases hs : m < 0
  · have h1 : IntKind.i64.wrap (m + 1) = m + 1 := wrap_i64_is (by omega) (by omega)
    have h2 : IntKind.i64.wrap (0 - (m + 1)) = (v : Int) - 1 := wrap_i64_is (by omega) (by omega)
    have h3 : IntKind.u64.wrap ((v : Int) - 1) = (v : Int) - 1 := by rw [wrap_u64_eq]; omega
    have h4 : IntKind.u64.wrap ((v : Int) - 1 + 1) = (v : Int) := by rw [wrap_u64_eq]; omega
    have h5 : IntKind.u32.wrap ((v : Int).tmod 4294967296) = (lo : Int) := by rw [Int.tmod_eq_emod_of_nonneg (by omega), wrap_u32_eq]; omega
    have h6 : IntKind.u64.wrap ((v : Int).tdiv 4294967296) = (hi : Int) := by rw [Int.tdiv_eq_ediv_of_nonneg (by omega), wrap_u64_eq]; omega
    have h7 : IntKind.u32.wrap (hi : Int) = (hi : Int) := by rw [wrap_u32_eq]; omega
    have h8 : IntKind.u64.wrap ((v : Int) / 4294967296) = (hi : Int) := by rw [wrap_u64_eq]; omega
    simp (disch := omega) [-wrap_u64_at, -wrap_u32_at, -wrap_i64_at, -Int.zero_sub, -Int.sub_add_cancel, c40, hs, h1, h2, h3, h4, h5, h6, h7, h8]
    refine CallK.of (by simp) (Made_call' (by omega) true ⟨n, n, 0⟩ [lo, hi] (by simp) hlim m (by omega) (by simp [hs]) fun i' hi' => ?_)
    simpa [hs] using hQ i' (n + 1) (by omega) (hfin _ rfl i' hi')
  · have h5 : IntKind.u32.wrap (m.tmod 4294967296) = (lo : Int) := by rw [Int.tmod_eq_emod_of_nonneg (by omega), wrap_u32_eq]; omega
    have h6 : IntKind.i64.wrap (m.tdiv 4294967296) = (hi : Int) := by rw [Int.tdiv_eq_ediv_of_nonneg (by omega)]; exact wrap_i64_is (by omega) (by omega)
    have h7 : IntKind.u32.wrap (hi : Int) = (hi : Int) := by rw [wrap_u32_eq]; omega
    simp (disch := omega) [-wrap_u64_at, -wrap_u32_at, -wrap_i64_at, c40, hs, h5, h6, h7]
    refine CallK.of (by simp) (Made_call' (by omega) false ⟨n, n, 0⟩ [lo, hi] (by simp) hlim m (by omega) (by simp [hs]) fun i' hi' => ?_)
    simpa [hs] using hQ i' (n + 1) (by omega) (hfin _ rfl i' hi')

/-- Which of two is more, their difference being z. -/
def cmpZ (z : Int) : Int := if z < 0 then -1 else if z = 0 then 0 else 1
theorem val_pos {l : List Nat} (ll : Lim l) (h : topOk l) (hl : l ≠ []) : 0 < val l := by
  rcases Nat.eq_zero_or_pos (val l) with e | e
  · have := right_dig ll h
    rw [e, dig_zero] at this
    exact absurd this.symm hl
  · exact e
theorem sizeL_cmp {a b : List Nat} (la : Lim a) (lb : Lim b) (ta : topOk a) (tb : topOk b) : sizeL a b = cmpZ ((val a : Int) - val b) := by
  unfold sizeL cmpZ
  by_cases h1 : a.length < b.length
  · have := val_lt_len la tb h1
    rw [if_pos h1, if_pos (by omega)]
  · by_cases h2 : b.length < a.length
    · have := val_lt_len lb ta h2
      rw [if_neg h1, if_pos h2, if_neg (by omega), if_neg (by omega)]
    · rw [if_neg h1, if_neg h2]
      by_cases h3 : val a < val b
      · rw [if_pos h3, if_pos (by omega)]
      · by_cases h4 : val b < val a
        · rw [if_neg h3, if_pos h4, if_neg (by omega), if_neg (by omega)]
        · rw [if_neg h3, if_neg h4, if_neg (by omega), if_pos (by omega)]

/-! ### bits -/
def blenF : Nat → Nat → Nat
  | 0, _ => 0
  | f + 1, x => if x = 0 then 0 else blenF f (x / 2) + 1
/-- How many bits a limb has. -/
def blen (x : Nat) : Nat := blenF 32 x
theorem blenF_succ : ∀ (f x : Nat), x < 2 ^ f → blenF (f + 1) x = blenF f x
  | 0, x, h => by have : x = 0 := by simpa using h
                  subst this; simp [blenF]
  | f + 1, x, h => by
    show (if x = 0 then 0 else blenF (f + 1) (x / 2) + 1) = (if x = 0 then 0 else blenF f (x / 2) + 1)
    rw [blenF_succ f (x / 2) (by rw [Nat.pow_succ] at h; omega)]
theorem blen_zero : blen 0 = 0 := by simp [blen, blenF]
theorem blen_half {x : Nat} (h : x ≠ 0) (hx : x < 4294967296) : blen x = blen (x / 2) + 1 := by
  show (if x = 0 then 0 else blenF 31 (x / 2) + 1) = blenF 32 (x / 2) + 1
  rw [if_neg h, blenF_succ 31 (x / 2) (by omega)]
theorem blen_shift {x : Nat} : ∀ (k : Nat), x / 2 ^ k ≠ 0 → x < 4294967296 → blen x = blen (x / 2 ^ k) + k
  | 0, h, hx => by simp
  | k + 1, h, hx => by
    have e : x / 2 ^ (k + 1) = x / 2 ^ k / 2 := by rw [Nat.pow_succ, Nat.div_div_eq_div_mul]
    rw [e] at h ⊢
    have h0 : x / 2 ^ k ≠ 0 := by omega
    rw [blen_shift k h0 hx, blen_half h0 (Nat.lt_of_le_of_lt (Nat.div_le_self _ _) hx)]
    omega
theorem blen_le {x : Nat} (hx : x < 4294967296) : blen x ≤ 32 := by
  have : ∀ f x, blenF f x ≤ f := by
    intro f
    induction f with
    | zero => intro x; simp [blenF]
    | succ f ih => intro x; rw [blenF]; split; omega; have := ih (x / 2); omega
  exact this 32 x
/-- How many bits a number has. -/
def lenW (l : List Nat) : Nat := if h : 0 < l.length then 32 * (l.length - 1) + blen l[l.length - 1] else 0

def refLenI (neg : Bool) (i : Sid) (l : List Nat) (n : Nat) (k : Nat) (s : St) : Prop :=
  ∃ (top c : Nat), k = blen top ∧ top < 4294967296 ∧ c + k = lenW l ∧ At s 29 [[.bool neg, .sl i 1 (u32s l)]] n [(1, .box 0 0), (3, .int .i64 c), (4, .int .u32 top)]
theorem RefLen_call {n : Nat} (hn : 0 < n) (neg : Bool) (i : Sid) (l : List Nat) (hl : l.length < 35184372088800) (ll : Lim l) {Q : PV → Nat → List Nat → Prop}
    (hQ : Q (.int .i64 (lenW l)) n []) : PCall Tryd.prog 57 [W neg i l] n Q := by
  refine of57 hn ?_
  by_cases h0 : 0 < l.length
  · have hj : l.length - 1 < l.length := by omega
    have hx := ll.get hj
    have hlw : lenW l = 32 * (l.length - 1) + blen l[l.length - 1] := by simp [lenW, h0]
    have hbl := blen_le hx
    obtain ⟨c0, hc0⟩ : ∃ c0, c0 = 32 * (l.length - 1) := ⟨_, rfl⟩
    have hw : IntKind.i64.wrap (32 * ((l.length - 1 : Nat) : Int)) = (c0 : Int) := wrap_i64_is (by omega) (by omega)
    have hne : ¬ l = [] := fun e => by subst e; simp at h0
    simp (disch := omega) [c57, h0, hj, hw, hne]
    refine GO_loopN (refLenI neg i l n) (blen l[l.length - 1]) ⟨l[l.length - 1], c0, rfl, hx, by omega, ?_⟩ ?_
    · simp [At]
    · rintro k s ⟨top, c, rfl, htop, hck, ⟨e1, e2, e3, e4, e5⟩⟩
      simp at e5
      obtain ⟨e5, e6, e7⟩ := e5
      by_cases ht : top = 0
      · subst ht
        rw [blen_zero] at hck
        rw [← hck] at hQ
        simp (disch := omega) [c57L0, c57R0, e1, e2, e3, e4, e5, e6, e7]
        simpa using hQ
      · have htp : 0 < top := by omega
        have hb2 := blen_half ht htop
        obtain ⟨t2, ht2⟩ : ∃ t2, t2 = top / 2 := ⟨_, rfl⟩
        rw [← ht2] at hb2
        have h3 : (top : Int) / 2 = (t2 : Int) := by omega
        simp (disch := omega) [c57L0, e1, e2, e3, e4, e5, e6, e7, htp, h3]
        refine ⟨blen t2, by omega, t2, c + 1, rfl, by omega, by omega, ?_⟩
        simp [At, e1, e2, e3, e4, e5, e6, e7]
  · have : l = [] := List.length_eq_zero_iff.1 (by omega)
    subst this
    simp [lenW] at hQ
    simpa [c57] using hQ
end Go.Proofs.YtdaoblhmnafllaaDoor
