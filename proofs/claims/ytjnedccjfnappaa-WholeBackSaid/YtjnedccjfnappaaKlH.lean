/- The row WholeBack: what the law answers at every input. -/
import Derived.Test.YtjnedccjfnappaaClG
import Derived.Test.YtjnedccjfnappaaAdB
set_option linter.unusedVariables false
set_option linter.unusedSimpArgs false
namespace Go.Proofs.Ytjnedccjfnappaa
open Go.Proofs
open Go.ChangeShapes Go.WideShapes Go.ChangeAt Go.RowKit Go.Joins

theorem WholeBack_body (H : Type) (enc : TypeId × Value → H) (W : World) (base : Nat) (args : Array Value) (ds gs : List (DataW H)) (before : List MemPlace)
    (hval0 : ∀ (j : Nat) t v, Try.f10.params[j]? = some t → args[j]? = some v → Value.okWide Try.prog W .any base t v)
    (hW : DataW.Whole enc Try.prog Try.f10.params.toList Rows.wholeBackSpec.vars false W args.toList ds gs before) (hk : (DataW.weightsEach Try.prog (Try.f10.params.toList ++ Rows.wholeBackSpec.plain.varTypes Try.prog) (ds ++ gs)).all (· ≤ reachBytes) = true) :
    Calls Try.prog 10 args W fun e W' => ∃ v, e = .returned v ∧ Rows.wholeBackSpec.post enc Try.prog Try.f10 false true false false W args v W' := by
  have hval : ∀ (j : Nat) t v, Try.f10.params[j]? = some t → args[j]? = some v → Value.okWide Try.prog W .any base t v := hval0
  have hW' := hW
  obtain ⟨p, q, hA0, hV, rfl, hfz, hnd⟩ := hW
  have hA : DataW.TrodAll enc Try.prog W 0 (fun _ => true) true Try.f10.params.toList args.toList ds p := hA0
  have hk' := hk
  rw [Try.params10] at hA hval
  obtain ⟨v0, vs0, d0, ds0, p0, q0, hargs, rfl, rfl, h0, r0⟩ := trodAll_cons hA
  obtain ⟨v1, vs1, d1, ds1, p1, q1, e1, rfl, rfl, h1, r1⟩ := trodAll_cons r0
  subst e1
  obtain ⟨v2, vs2, d2, ds2, p2, q2, e2, rfl, rfl, h2, r2⟩ := trodAll_cons r1
  subst e2
  obtain ⟨rfl, rfl, rfl⟩ := trodAll_nil r2
  obtain rfl : args = #[v0, v1, v2] := by cases args; simp_all
  obtain ⟨rfl, rfl⟩ := trodVars_none hV
  have k0 := h0
  have lt0 : ∀ x ∈ p0, x.block < W.heap.size := by obtain ⟨m, hm⟩ := k0; exact DataW.trod_lt m _ _ _ hm
  have g0 : ∀ x, x ∈ d0.weights Try.prog 24 → x ≤ reachBytes := fun x hx => by have := List.all_eq_true.1 hk x (DataW.weights_mem_each (j := 0) (t := 24) (d := d0) rfl rfl x hx); simpa using this
  have k1 := h1
  have lt1 : ∀ x ∈ p1, x.block < W.heap.size := by obtain ⟨m, hm⟩ := k1; exact DataW.trod_lt m _ _ _ hm
  have g1 : ∀ x, x ∈ d1.weights Try.prog 24 → x ≤ reachBytes := fun x hx => by have := List.all_eq_true.1 hk x (DataW.weights_mem_each (j := 1) (t := 24) (d := d1) rfl rfl x hx); simpa using this
  have k2 := h2
  have lt2 : ∀ x ∈ p2, x.block < W.heap.size := by obtain ⟨m, hm⟩ := k2; exact DataW.trod_lt m _ _ _ hm
  obtain ⟨n0, a0, cap0, l0, b0, o0, rfl, w0⟩ := open_whole (hval 0 24 v0 rfl rfl) h0
  have u0 := whole_len (hval 0 24 _ rfl rfl) h0
  have len0 : l0.length ≤ 35184372087808 := u0.2 g0
  obtain ⟨n1, a1, cap1, l1, b1, o1, rfl, w1⟩ := open_whole (hval 1 24 v1 rfl rfl) h1
  have u1 := whole_len (hval 1 24 _ rfl rfl) h1
  have len1 : l1.length ≤ 35184372087808 := u1.2 g1
  obtain ⟨z2, rfl, rfl, rfl, wf2⟩ := open_int Try.underlying3 (hval 2 3 v2 rfl rfl) h2
  have wi2 : -9223372036854775808 ≤ z2 ∧ z2 < 9223372036854775808 := by simp [Lit.wf, IntKind.min, IntKind.max, IntKind.signed, IntKind.bits] at wf2; omega
  clear hA0 hval0
  have hc := calls_of_clean (P := Try.prog) (f := 10) (w := W) (pl := [(b0, o0), (b1, o1)]) (args := [Go.Proofs.Ytjnedccjfnappaa.W n0 ⟨0, 1, 0⟩ l0, Go.Proofs.Ytjnedccjfnappaa.W n1 ⟨0, 2, 0⟩ l1, .int .i64 z2]) (A := [.agg #[.bool n0, .slice a0 l0.length cap0], .agg #[.bool n1, .slice a1 l1.length cap1], .int .i64 z2]) (by
    simp only [LRel]
    exact ⟨_, _, rfl, vrel_whole (g := 0) w0 rfl, _, _, rfl, vrel_whole (g := 1) w1 rfl, _, _, rfl, by simp [VRel], rfl⟩) (WholeBack_call (by simp) n0 n1 _ _ (by simp) (by simp) l0 l1 (by omega) (by omega) w0.lim w1.lim z2 wi2 fun n' D _ hD => ⟨rfl, fun x hx => hD x hx⟩)
  refine hc.mono fun e W' ⟨he, bel⟩ => ?_
  subst he
  exact ⟨_, rfl, _, _, _, [], _, [], hW', trodAll_mk1 (shut_bool Try.underlying4 _), (trodAll_cons_mk (Below.trod laidOut (by kernel_rfl) (of_decide_eq_true (by kernel_rfl)) k0 bel lt0) (trodAll_cons_mk (Below.trod laidOut (by kernel_rfl) (of_decide_eq_true (by kernel_rfl)) k1 bel lt1) (trodAll_cons_mk (Below.trod laidOut (by kernel_rfl) (of_decide_eq_true (by kernel_rfl)) k2 bel lt2) trodAll_mk0))), rfl, bel.frame _, fun h => by cases h⟩

set_option maxRecDepth 100000 in
theorem WholeBack_lifted (os : Os) (started : os.Started) (H : Type) (enc : TypeId × Value → H) :
    ReturnsInHanded {} Try.checked os 10 .any (Rows.wholeBackSpec.pre6 enc Try.prog Try.f10 Rows.wholeBackRow.domain false) (Rows.wholeBackSpec.post enc Try.prog Try.f10 false true false false) := by
  refine returnsInHanded_of_change_sized (C := Try.checked) own started (by kernel_rfl) Try.func10
    (ChangeSpec.witness6 (enc := enc) (C := Try.checked) false ⟨#[], #[.agg #[.bool false, .slice none 0 0], .agg #[.bool false, .slice none 0 0], .int .i64 0], []⟩ 8 (by kernel_rfl) (by kernel_rfl) (by kernel_rfl) (by kernel_rfl)) ?_
  intro W base args ds gs before hval hW _ hk _
  exact WholeBack_body H enc W base args ds gs before hval hW hk

theorem WholeBack_over : Rows.wholeBackRow.holds Try.pinned (OpenSpec.ofChange Rows.wholeBackSpec) :=
  OpenClaim.holds_of_wide 10 Try.f10 rfl rfl rfl rfl rfl rfl rfl ⟨rfl, rfl, rfl, rfl, rfl⟩ rfl rfl rfl rfl rfl (by kernel_rfl) Try.func10 (by kernel_rfl)
    (of_decide_eq_true (by kernel_rfl)) (by unfold Func.isWrapper; first | (rw [if_pos (by decide +kernel)]; kernel_rfl) | (rw [if_neg (by decide +kernel)]; exact ⟨rfl, rfl⟩))
    (fun os started H enc _ => WholeBack_lifted os started H enc)

theorem WholeBack_proved : Rows.WholeBackSaid := WholeBack_over
#print axioms WholeBack_proved
end Go.Proofs.Ytjnedccjfnappaa
