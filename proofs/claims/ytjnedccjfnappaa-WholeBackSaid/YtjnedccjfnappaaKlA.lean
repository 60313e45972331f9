/- The law WholeChecks, by value, and its row. -/
import Derived.Test.YtjnedccjfnappaaAdA
set_option linter.unusedVariables false
set_option linter.unusedSimpArgs false
namespace Go.Proofs.Ytjnedccjfnappaa
open Go.Proofs
open Go.ChangeShapes Go.WideShapes Go.ChangeAt Go.RowKit Go.Joins

theorem WholeChecks_call {n : Nat} (hn : 0 < n) (na : Bool) (ia : Sid) (a : List Nat) (ha : a.length < 9223372036854775808) {Q : PV → Nat → List Nat → Prop}
    (hQ : ∀ n', n ≤ n' → Q (.bool true) n' []) : PCall Try.prog 3 [W na ia a] n Q := by
  refine of3 hn ?_
  simp (disch := omega) [c3]
  refine CallK.of (by simp) (Check_call hn na ia a ha ?_)
  by_cases hr : rightW na a = true
  · simp [hr]
    refine CallK.of (by simp) (Right_call hn na ia a ha ?_)
    simp [hr]
    refine CallK.of (by simp) (Check_call hn na ia a ha ?_)
    simp [hr]
    refine CallK.of (by simp) (awake_call hn fun n' h1 => ?_)
    simpa [h1] using hQ n' h1
  · simp [hr]
    refine CallK.of (by simp) (Right_call hn na ia a ha ?_)
    simp [hr]
    refine CallK.of (by simp) (Check_call hn na ia a ha ?_)
    simp [hr]
    refine CallK.of (by simp) (Check_call hn na ia a ha ?_)
    simp [hr]
    refine CallK.of (by simp) (awake_call hn fun n' h1 => ?_)
    simpa [h1] using hQ n' h1

theorem own : ownKnob Try.prog.godebug = none := by kernel_rfl
theorem laidOut : laidOutB Try.prog = true := by kernel_rfl

theorem open_whole {H : Type} {enc : TypeId × Value → H} {W : World} {r : Reach} {b0 : Nat} {v : Value} {d : DataW H} {p : List MemPlace} (hv : Value.okWide Try.prog W r b0 24 v) (h : DataW.Trod enc Try.prog W 0 (fun _ => true) true 24 v d p) :
    ∃ (neg : Bool) (a : Option Addr) (cap : Nat) (l : List Nat) (b o : Nat), v = .agg #[.bool neg, .slice a l.length cap] ∧ RowAt W a cap l b o := by
  obtain ⟨c0, c1, y0, y1, m, rfl, rfl, rfl, hy0, hy1⟩ := open_agg2 Try.underlying24 (by kernel_rfl) (by kernel_rfl) hv h
  obtain ⟨neg, e0, _⟩ := DataW.trod_bool Try.underlying4 hy0
  simp at e0
  subst e0
  have hs : ∃ a len cap, c1 = .slice a len cap := by
    rcases open_ints Try.underlying22 Try.underlying51 (by kernel_rfl) hy1 with ⟨hcs, _⟩ | ⟨x, l, c, zs, hcs, _⟩
    · simp at hcs; exact ⟨_, _, _, hcs⟩
    · simp at hcs; exact ⟨_, _, _, hcs⟩
  obtain ⟨a, len, cap, rfl⟩ := hs
  obtain ⟨l, b, o, rfl, hrow⟩ := row_of_slice (n := 0) Try.underlying22 Try.underlying51 (by kernel_rfl) hy1
  exact ⟨neg, a, cap, l, b, o, rfl, hrow⟩
theorem vrel_whole {w : World} {pl : List (Nat × Nat)} {neg : Bool} {a : Option Addr} {cap : Nat} {l : List Nat} {b o g : Nat} (h : RowAt w a cap l b o) (hg : pl[g]? = some (b, o)) : VRel [] (lay0 w pl) w (W neg ⟨0, g + 1, 0⟩ l) (.agg #[.bool neg, .slice a l.length cap]) := by
  unfold W VRel
  refine ⟨_, rfl, ?_⟩
  simp only [LRel]
  exact ⟨_, _, rfl, by simp [VRel], _, _, rfl, vrel_row h hg, rfl⟩

set_option maxRecDepth 100000 in
theorem WholeChecks_lifted (os : Os) (started : os.Started) (H : Type) (enc : TypeId × Value → H) :
    ReturnsInHanded {} Try.checked os 3 .any (Rows.wholeChecksSpec.pre6 enc Try.prog Try.f3 Rows.wholeChecksRow.domain false) (Rows.wholeChecksSpec.post enc Try.prog Try.f3 false true false false) := by
  refine returnsInHanded_of_change (C := Try.checked) own started (by kernel_rfl) Try.func3
    (ChangeSpec.witness6 (enc := enc) (C := Try.checked) false ⟨#[], #[.agg #[.bool false, .slice none 0 0]], []⟩ 8 (by kernel_rfl) (by kernel_rfl) (by kernel_rfl) (by kernel_rfl)) ?_
  intro W base args ds gs before hval0 hW hcnd _
  have hval : ∀ (j : Nat) t v, Try.f3.params[j]? = some t → args[j]? = some v → Value.okWide Try.prog W .any base t v := hval0
  have hW' := hW
  obtain ⟨p, q, hA0, hV, rfl, hfz, hnd⟩ := hW
  have hA : DataW.TrodAll enc Try.prog W 0 (fun _ => true) true Try.f3.params.toList args.toList ds p := hA0
  rw [Try.params3] at hA hval
  obtain ⟨v0, vs0, d0, ds0, p0, q0, hargs, rfl, rfl, h0, r0⟩ := trodAll_cons hA
  obtain ⟨rfl, rfl, rfl⟩ := trodAll_nil r0
  obtain rfl : args = #[v0] := by cases args; simp_all
  obtain ⟨rfl, rfl⟩ := trodVars_none hV
  have k0 := h0
  have lt0 : ∀ x ∈ p0, x.block < W.heap.size := by obtain ⟨m, hm⟩ := k0; exact DataW.trod_lt m _ _ _ hm
  obtain ⟨n0, a0, cap0, l0, b0, o0, rfl, w0⟩ := open_whole (hval 0 24 v0 rfl rfl) h0
  clear hA0 hval0
  have hlen : l0.length < 9223372036854775808 := by have := w0.len; have := w0.capm; simp [maxLen] at this; omega
  have hc := calls_of_pcall (P := Try.prog) (f := 3) (w := W) (pl := [(b0, o0)]) (args := [Go.Proofs.Ytjnedccjfnappaa.W n0 ⟨0, 1, 0⟩ l0]) (A := [.agg #[.bool n0, .slice a0 l0.length cap0]]) (by
    simp only [LRel]
    exact ⟨_, _, rfl, vrel_whole w0 rfl, rfl⟩) (WholeChecks_call (by simp) n0 _ l0 hlen fun n' _ => ⟨rfl, rfl⟩)
  refine hc.mono fun e W' ⟨he, bel⟩ => ?_
  subst he
  exact ⟨_, rfl, _, _, _, [], _, [], hW', trodAll_mk1 (shut_bool Try.underlying4 _), (trodAll_cons_mk (Below.trod laidOut (by kernel_rfl) (of_decide_eq_true (by kernel_rfl)) k0 bel lt0) trodAll_mk0), rfl, bel.frame _, fun h => by cases h⟩

theorem WholeChecks_over : Rows.wholeChecksRow.holds Try.pinned (OpenSpec.ofChange Rows.wholeChecksSpec) :=
  OpenClaim.holds_of_wide 3 Try.f3 rfl rfl rfl rfl rfl rfl rfl ⟨rfl, rfl, rfl, rfl, rfl⟩ rfl rfl rfl rfl rfl (by kernel_rfl) Try.func3 (by kernel_rfl)
    (of_decide_eq_true (by kernel_rfl)) (by unfold Func.isWrapper; first | (rw [if_pos (by decide +kernel)]; kernel_rfl) | (rw [if_neg (by decide +kernel)]; exact ⟨rfl, rfl⟩))
    (fun os started H enc _ => WholeChecks_lifted os started H enc)

theorem WholeChecks_proved : Rows.WholeChecksSaid := WholeChecks_over
#print axioms WholeChecks_proved
end Go.Proofs.Ytjnedccjfnappaa
