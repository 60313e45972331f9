/- The laws of layer 1, by value: sums and products hang on no order and on no brackets. -/
import Derived.Test.YtjnedccjfnappaaCtL
set_option linter.unusedVariables false
set_option linter.unusedSimpArgs false
namespace Go.Proofs.Ytjnedccjfnappaa
open Go.Proofs

theorem newSid_lt {n n' : Nat} {i : Sid} (h : newSid n n' i) (hn : 0 < n') : i.f < n' := by
  rcases h with e | e
  · subst e; simpa using hn
  · omega

theorem WholeLaws_call {n : Nat} (hn : 0 < n) (na nb nc : Bool) (ia ib ic : Sid) (hia : ia.f < n) (hib : ib.f < n) (hic : ic.f < n) (a b c : List Nat) (ha : a.length < 35184372088000) (hb : b.length < 35184372088000) (hc : c.length < 35184372088000) (la : Lim a) (lb : Lim b) (lc : Lim c) {Q : PV → Nat → List Nat → Prop}
    (hQ : ∀ n' D, n ≤ n' → (∀ x, x ∈ D → n ≤ x) → Q (.bool true) n' D) : PCall Try.prog 6 [W na ia a, W nb ib b, W nc ic c] n Q := by
  have hQ : ∀ n', n ≤ n' → Q (.bool true) n' [] := fun n' h => hQ n' [] h (by simp)
  refine of6 hn ?_
  simp (disch := omega) [c6]
  refine CallK.of (by simp) (form_call hn na nb ia ib a b (by omega) (by omega) ?_)
  by_cases h1 : rightW na a = true
  · by_cases h2 : rightW nb b = true
    · simp (disch := omega) [h1, h2]
      refine CallK.of (by simp) (form_call hn nc nc ic ic c c (by omega) (by omega) ?_)
      by_cases h3 : rightW nc c = true
      · by_cases k1 : 40 < a.length
        · simp (disch := omega) [h3, k1]
          refine CallK.of (by simp) (awake_call (by omega) fun n2 k2 => ?_)
          simpa [show n ≤ n2 by omega] using hQ n2 (by omega)
        by_cases k2 : 40 < b.length
        · simp (disch := omega) [h3, k1, k2]
          refine CallK.of (by simp) (awake_call (by omega) fun n2 k2 => ?_)
          simpa [show n ≤ n2 by omega] using hQ n2 (by omega)
        by_cases k3 : 40 < c.length
        · simp (disch := omega) [h3, k1, k2, k3]
          refine CallK.of (by simp) (awake_call (by omega) fun n2 k2 => ?_)
          simpa [show n ≤ n2 by omega] using hQ n2 (by omega)
        simp (disch := omega) [h3, k1, k2, k3]
        obtain ⟨x, rfl, rfl⟩ := right_Z h1 la
        obtain ⟨y, rfl, rfl⟩ := right_Z h2 lb
        obtain ⟨z, rfl, rfl⟩ := right_Z h3 lc
        have sx : sz x 40 := (sz_dig x).mono (by omega)
        have sy : sz y 40 := (sz_dig y).mono (by omega)
        have sz1 : sz z 40 := (sz_dig z).mono (by omega)
        obtain ⟨s, hs⟩ : ∃ s, x + y = s := ⟨_, rfl⟩
        obtain ⟨p, hp⟩ : ∃ p, s + z = p := ⟨_, rfl⟩
        obtain ⟨q, hq⟩ : ∃ q, y + z = q := ⟨_, rfl⟩
        obtain ⟨m, hm⟩ : ∃ m, s * z = m := ⟨_, rfl⟩
        obtain ⟨u, hu⟩ : ∃ u, x * z = u := ⟨_, rfl⟩
        obtain ⟨v, hv⟩ : ∃ v, y * z = v := ⟨_, rfl⟩
        have huv : u + v = m := by rw [← hu, ← hv, ← hm, ← hs, Int.add_mul]
        have ss : sz s 41 := hs ▸ sx.add sy
        have sq : sz q 41 := hq ▸ sy.add sz1
        have su : sz u 80 := hu ▸ sx.mul sz1
        have sv : sz v 80 := hv ▸ sy.mul sz1
        clear ha hb hc la lb lc h1 h2 h3
        refine CallK.of (by simp) (Add_Z (by omega) x y s ia ib 40 sx sy (by omega) hs fun i1 n1 g1 d1 => ?_)
        simp (disch := omega) [g1]
        refine CallK.of (by simp) (Add_Z (by omega) y x s ib ia 40 sy sx (by omega) (by omega) fun i2 n2 g2 d2 => ?_)
        simp (disch := omega) [g1, g2]
        refine CallK.of (by simp) (Add_Z (by omega) s z p i1 ic 41 ss (sz1.mono (by omega)) (by omega) hp fun i3 n3 g3 d3 => ?_)
        simp (disch := omega) [g1, g2, g3]
        refine CallK.of (by simp) (Add_Z (by omega) y z q ib ic 40 sy sz1 (by omega) hq fun i4 n4 g4 d4 => ?_)
        simp (disch := omega) [g1, g2, g3, g4]
        refine CallK.of (by simp) (Add_Z (by omega) x q p ia i4 41 (sx.mono (by omega)) sq (by omega) (by omega) fun i5 n5 g5 d5 => ?_)
        simp (disch := omega) [g1, g2, g3, g4, g5]
        have f1 := newSid_lt d1 (by omega)
        refine CallK.of (by simp) (Mul_Z (by omega) s z m i1 ic (by omega) (by omega) 41 40 ss sz1 (by omega) hm fun i6 n6 g6 d6 => ?_)
        simp (disch := omega) [g1, g2, g3, g4, g5, g6]
        refine CallK.of (by simp) (Mul_Z (by omega) x z u ia ic (by omega) (by omega) 40 40 sx sz1 (by omega) hu fun i7 n7 g7 d7 => ?_)
        simp (disch := omega) [g1, g2, g3, g4, g5, g6, g7]
        refine CallK.of (by simp) (Mul_Z (by omega) y z v ib ic (by omega) (by omega) 40 40 sy sz1 (by omega) hv fun i8 n8 g8 d8 => ?_)
        simp (disch := omega) [g1, g2, g3, g4, g5, g6, g7, g8]
        refine CallK.of (by simp) (Add_Z (by omega) u v m i7 i8 80 su sv (by omega) huv fun i9 n9 g9 d9 => ?_)
        simp (disch := omega) [g1, g2, g3, g4, g5, g6, g7, g8, g9]
        refine CallK.of (by simp) (Mul_Z (by omega) z x u ic ia (by omega) (by omega) 40 40 sz1 sx (by omega) (by rw [Int.mul_comm]; exact hu) fun i10 n10 g10 d10 => ?_)
        simp (disch := omega) [g1, g2, g3, g4, g5, g6, g7, g8, g9, g10]
        have l1 := ss.len
        have l2 := su.len
        have l3 := (hp ▸ ss.add (sz1.mono (show 40 ≤ 41 by omega)) : sz p 42).len
        have l4 := (huv ▸ su.add sv : sz m 81).len
        refine CallK.of (by simp) (Same_call (by omega) _ _ i1 i2 _ _ (by omega) ?_)
        simp (disch := omega) [g1, g2, g3, g4, g5, g6, g7, g8, g9, g10]
        refine CallK.of (by simp) (Same_call (by omega) _ _ i3 i5 _ _ (by omega) ?_)
        simp (disch := omega) [g1, g2, g3, g4, g5, g6, g7, g8, g9, g10]
        refine CallK.of (by simp) (Same_call (by omega) _ _ i6 i9 _ _ (by omega) ?_)
        simp (disch := omega) [g1, g2, g3, g4, g5, g6, g7, g8, g9, g10]
        refine CallK.of (by simp) (Same_call (by omega) _ _ i7 i10 _ _ (by omega) ?_)
        simp (disch := omega) [g1, g2, g3, g4, g5, g6, g7, g8, g9, g10]
        refine CallK.of (by simp) (awake_call (by omega) fun n11 g11 => ?_)
        simpa [show n ≤ n11 by omega] using hQ n11 (by omega)
      · simp (disch := omega) [h3]
        refine CallK.of (by simp) (awake_call (by omega) fun n2 k2 => ?_)
        simpa [show n ≤ n2 by omega] using hQ n2 (by omega)
    · simp (disch := omega) [h1, h2]
      refine CallK.of (by simp) (awake_call (by omega) fun n2 k2 => ?_)
      simpa [show n ≤ n2 by omega] using hQ n2 (by omega)
  · simp (disch := omega) [h1]
    refine CallK.of (by simp) (awake_call (by omega) fun n2 k2 => ?_)
    simpa [show n ≤ n2 by omega] using hQ n2 (by omega)
end Go.Proofs.Ytjnedccjfnappaa
