/- What the functions of layer 1 do, by value: how many bits a number has. -/
import Derived.Test.YtdaoblhmnafllaaDoorCtJ
set_option linter.unusedVariables false
set_option linter.unusedSimpArgs false
namespace Go.Proofs.YtdaoblhmnafllaaDoor
open Go.Proofs

theorem tab68_all : (List.range 256).all (fun x => (tab68_0[x]?).map (·.toNat) == some (blen x)) = true := by kernel_rfl
theorem tab68_at (x : Nat) (hx : x < 256) : strAt Tryd.prog 9 tab68_0 (.int .u8 (x : Int)) = some (.int .u8 (blen x : Int)) := by
  have h := List.all_eq_true.1 tab68_all x (List.mem_range.2 hx)
  simp only [beq_iff_eq] at h
  obtain ⟨c, hc, hn⟩ := Option.map_eq_some_iff.1 h
  simp [strAt, Tryd.underlying9, hc, hn]

theorem wrap_u8_at (x : Nat) (h : x < 256) : IntKind.u8.wrap (x : Int) = (x : Int) := by
  simp [IntKind.wrap, IntKind.bits, IntKind.signed]; omega
theorem Len32_low {z : Nat} (hz : z < 256) : IntKind.u8.wrap (z : Int) = (z : Int) ∧ strAt Tryd.prog 9 tab68_0 (.int .u8 (z : Int)) = some (.int .u8 (blen z : Int)) ∧ blen z ≤ 32 := ⟨wrap_u8_at z hz, tab68_at z hz, blen_le (by omega)⟩
theorem Len32_call {n : Nat} (hn : 0 < n) (x : Nat) (hx : x < 4294967296) {Q : PV → Nat → List Nat → Prop}
    (hQ : Q (.int .i64 (blen x : Nat)) n []) : PCall Tryd.prog 68 [.int .u32 x] n Q := by
  refine of68 hn ?_
  by_cases h1 : 65536 ≤ x
  · have e1 := blen_shift (x := x) 16 (by omega) hx
    obtain ⟨y, hy⟩ : ∃ y, y = x / 65536 := ⟨_, rfl⟩
    have s16 : (x : Int) / 65536 = (y : Int) := by omega
    rw [show x / 2 ^ 16 = y by omega] at e1
    by_cases h2 : 256 ≤ y
    · have e2 := blen_shift (x := y) 8 (by omega) (by omega)
      obtain ⟨z, hz⟩ : ∃ z, z = y / 256 := ⟨_, rfl⟩
      have s8 : (y : Int) / 256 = (z : Int) := by omega
      rw [show y / 2 ^ 8 = z by omega] at e2
      obtain ⟨hw, ht, hb⟩ := Len32_low (z := z) (by omega)
      have hs : (24 : Int) + (blen z : Int) = (blen x : Int) := by omega
      simpa (disch := omega) [c68, h1, s16, h2, s8, hw, ht, hs] using hQ
    · obtain ⟨hw, ht, hb⟩ := Len32_low (z := y) (by omega)
      have hs : (16 : Int) + (blen y : Int) = (blen x : Int) := by omega
      simpa (disch := omega) [c68, h1, s16, h2, hw, ht, hs] using hQ
  · by_cases h2 : 256 ≤ x
    · have e2 := blen_shift (x := x) 8 (by omega) (by omega)
      obtain ⟨z, hz⟩ : ∃ z, z = x / 256 := ⟨_, rfl⟩
      have s8 : (x : Int) / 256 = (z : Int) := by omega
      rw [show x / 2 ^ 8 = z by omega] at e2
      obtain ⟨hw, ht, hb⟩ := Len32_low (z := z) (by omega)
      have hs : (8 : Int) + (blen z : Int) = (blen x : Int) := by omega
      simpa (disch := omega) [c68, h1, h2, s8, hw, ht, hs] using hQ
    · obtain ⟨hw, ht, hb⟩ := Len32_low (z := x) (by omega)
      simpa (disch := omega) [c68, h1, h2, hw, ht] using hQ

theorem Len_call {n : Nat} (hn : 0 < n) (neg : Bool) (i : Sid) (l : List Nat) (hl : l.length < 35184372088800) (ll : Lim l) {Q : PV → Nat → List Nat → Prop}
    (hQ : Q (.int .i64 (lenW l)) n []) : PCall Tryd.prog 46 [W neg i l] n Q := by
  refine of46 hn ?_
  by_cases h0 : 0 < l.length
  · have hj : l.length - 1 < l.length := by omega
    have hx := ll.get hj
    have hlw : lenW l = 32 * (l.length - 1) + blen l[l.length - 1] := by simp [lenW, h0]
    have hbl := blen_le hx
    obtain ⟨c0, hc0⟩ : ∃ c0, c0 = 32 * (l.length - 1) := ⟨_, rfl⟩
    have hw : IntKind.i64.wrap (32 * ((l.length - 1 : Nat) : Int)) = (c0 : Int) := wrap_i64_is (by omega) (by omega)
    have hne : ¬ l.length = 0 := by omega
    simp (disch := omega) [c46, h0, hj, hne, hw]
    refine CallK.of (by simp) (Len32_call hn _ hx ?_)
    have hs : (c0 : Int) + (blen l[l.length - 1] : Nat) = (lenW l : Int) := by omega
    simpa (disch := omega) [hs] using hQ
  · have : l = [] := List.length_eq_zero_iff.1 (by omega)
    subst this
    simp [lenW] at hQ
    simpa [c46] using hQ
end Go.Proofs.YtdaoblhmnafllaaDoor
