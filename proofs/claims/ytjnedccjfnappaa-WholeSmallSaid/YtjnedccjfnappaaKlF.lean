/- The row WholeSmall: what the law answers at every input. -/
import Derived.Test.YtjnedccjfnappaaClE
import Derived.Test.YtjnedccjfnappaaAdB
set_option linter.unusedVariables false
set_option linter.unusedSimpArgs false
namespace Go.Proofs.Ytjnedccjfnappaa
open Go.Proofs
open Go.ChangeShapes Go.WideShapes Go.ChangeAt Go.RowKit Go.Joins

theorem WholeSmall_body (H : Type) (enc : TypeId × Value → H) (W : World) (base : Nat) (args : Array Value) (ds gs : List (DataW H)) (before : List MemPlace)
    (hval0 : ∀ (j : Nat) t v, Try.f7.params[j]? = some t → args[j]? = some v → Value.okWide Try.prog W .any base t v)
    (hW : DataW.Whole enc Try.prog Try.f7.params.toList Rows.wholeSmallSpec.vars false W args.toList ds gs before) (hk : (DataW.weightsEach Try.prog (Try.f7.params.toList ++ Rows.wholeSmallSpec.plain.varTypes Try.prog) (ds ++ gs)).all (· ≤ reachBytes) = true) :
    Calls Try.prog 7 args W fun e W' => ∃ v, e = .returned v ∧ Rows.wholeSmallSpec.post enc Try.prog Try.f7 false true false false W args v W' := by
  have hval : ∀ (j : Nat) t v, Try.f7.params[j]? = some t → args[j]? = some v → Value.okWide Try.prog W .any base t v := hval0
  have hW' := hW
  obtain ⟨p, q, hA0, hV, rfl, hfz, hnd⟩ := hW
  have hA : DataW.TrodAll enc Try.prog W 0 (fun _ => true) true Try.f7.params.toList args.toList ds p := hA0
  have hk' := hk
  rw [Try.params7] at hA hval
  obtain ⟨v0, vs0, d0, ds0, p0, q0, hargs, rfl, rfl, h0, r0⟩ := trodAll_cons hA
  obtain ⟨v1, vs1, d1, ds1, p1, q1, e1, rfl, rfl, h1, r1⟩ := trodAll_cons r0
  subst e1
  obtain ⟨v2, vs2, d2, ds2, p2, q2, e2, rfl, rfl, h2, r2⟩ := trodAll_cons r1
  subst e2
  obtain ⟨rfl, rfl, rfl⟩ := trodAll_nil r2
  obtain rfl : args = #[v0, v1, v2] := by cases args; simp_all
  obtain ⟨rfl, rfl⟩ := trodVars_none hV
  have k0 := h0
  have lt0 : ∀ x ∈ p0, x.block < W.heap.size := by obtain ⟨m, hm⟩ := k0; exact DataW.trod_lt m _ _ _ hm
  have k1 := h1
  have lt1 : ∀ x ∈ p1, x.block < W.heap.size := by obtain ⟨m, hm⟩ := k1; exact DataW.trod_lt m _ _ _ hm
  have k2 := h2
  have lt2 : ∀ x ∈ p2, x.block < W.heap.size := by obtain ⟨m, hm⟩ := k2; exact DataW.trod_lt m _ _ _ hm
  have g2 : ∀ x, x ∈ d2.weights Try.prog 24 → x ≤ reachBytes := fun x hx => by have := List.all_eq_true.1 hk x (DataW.weights_mem_each (j := 2) (t := 24) (d := d2) rfl rfl x hx); simpa using this
  obtain ⟨z0, rfl, rfl, rfl, wf0⟩ := open_int Try.underlying2 (hval 0 2 v0 rfl rfl) h0
  have wi0 : -9223372036854775808 ≤ z0 ∧ z0 < 9223372036854775808 := by simp [Lit.wf, IntKind.min, IntKind.max, IntKind.signed, IntKind.bits] at wf0; omega
  obtain ⟨z1, rfl, rfl, rfl, wf1⟩ := open_int Try.underlying2 (hval 1 2 v1 rfl rfl) h1
  have wi1 : -9223372036854775808 ≤ z1 ∧ z1 < 9223372036854775808 := by simp [Lit.wf, IntKind.min, IntKind.max, IntKind.signed, IntKind.bits] at wf1; omega
  obtain ⟨n2, a2, cap2, l2, b2, o2, rfl, w2⟩ := open_whole (hval 2 24 v2 rfl rfl) h2
  have u2 := whole_len (hval 2 24 _ rfl rfl) h2
  have len2 : l2.length ≤ 35184372087808 := u2.2 g2
  clear hA0 hval0
  have hc := calls_of_clean (P := Try.prog) (f := 7) (w := W) (pl := [(b2, o2)]) (args := [.int .i64 z0, .int .i64 z1, Go.Proofs.Ytjnedccjfnappaa.W n2 ⟨0, 1, 0⟩ l2]) (A := [.int .i64 z0, .int .i64 z1, .agg #[.bool n2, .slice a2 l2.length cap2]]) (by
    simp only [LRel]
    exact ⟨_, _, rfl, by simp [VRel], _, _, rfl, by simp [VRel], _, _, rfl, vrel_whole (g := 0) w2 rfl, rfl⟩) (WholeSmall_call (by simp) z0 z1 wi0 wi1 n2 _ (by simp) l2 (by omega) w2.lim fun n' D _ hD => ⟨rfl, fun x hx => hD x hx⟩)
  refine hc.mono fun e W' ⟨he, bel⟩ => ?_
  subst he
  exact ⟨_, rfl, _, _, _, [], _, [], hW', trodAll_mk1 (shut_bool Try.underlying4 _), (trodAll_cons_mk (Below.trod laidOut (by kernel_rfl) (of_decide_eq_true (by kernel_rfl)) k0 bel lt0) (trodAll_cons_mk (Below.trod laidOut (by kernel_rfl) (of_decide_eq_true (by kernel_rfl)) k1 bel lt1) (trodAll_cons_mk (Below.trod laidOut (by kernel_rfl) (of_decide_eq_true (by kernel_rfl)) k2 bel lt2) trodAll_mk0))), rfl, bel.frame _, fun h => by cases h⟩

set_option maxRecDepth 100000 in
theorem WholeSmall_lifted (os : Os) (started : os.Started) (H : Type) (enc : TypeId × Value → H) :
    ReturnsInHanded {} Try.checked os 7 .any (Rows.wholeSmallSpec.pre6 enc Try.prog Try.f7 Rows.wholeSmallRow.domain false) (Rows.wholeSmallSpec.post enc Try.prog Try.f7 false true false false) := by
  refine returnsInHanded_of_change_sized (C := Try.checked) own started (by kernel_rfl) Try.func7
    (ChangeSpec.witness6 (enc := enc) (C := Try.checked) false ⟨#[], #[.int .i64 0, .int .i64 0, .agg #[.bool false, .slice none 0 0]], []⟩ 8 (by kernel_rfl) (by kernel_rfl) (by kernel_rfl) (by kernel_rfl)) ?_
  intro W base args ds gs before hval hW _ hk _
  exact WholeSmall_body H enc W base args ds gs before hval hW hk

theorem WholeSmall_over : Rows.wholeSmallRow.holds Try.pinned (OpenSpec.ofChange Rows.wholeSmallSpec) :=
  OpenClaim.holds_of_wide 7 Try.f7 rfl rfl rfl rfl rfl rfl rfl ⟨rfl, rfl, rfl, rfl, rfl⟩ rfl rfl rfl rfl rfl (by kernel_rfl) Try.func7 (by kernel_rfl)
    (of_decide_eq_true (by kernel_rfl)) (by unfold Func.isWrapper; first | (rw [if_pos (by decide +kernel)]; kernel_rfl) | (rw [if_neg (by decide +kernel)]; exact ⟨rfl, rfl⟩))
    (fun os started H enc _ => WholeSmall_lifted os started H enc)

theorem WholeSmall_proved : Rows.WholeSmallSaid := WholeSmall_over
#print axioms WholeSmall_proved
end Go.Proofs.Ytjnedccjfnappaa
