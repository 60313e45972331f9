/- The row ExactMinors: what the law answers at every input. -/
import Derived.Test.YtcdkgeeookcoeaaExO
import Derived.Test.YtcdkgeeookcoeaaAdB
set_option linter.unusedVariables false
set_option linter.unusedSimpArgs false
namespace Go.Proofs.Ytcdkgeeookcoeaa
open Go.Proofs
open Go.ChangeShapes Go.WideShapes Go.ChangeAt Go.RowKit Go.Joins

theorem ExactMinors_body (H : Type) (enc : TypeId × Value → H) (W : World) (base : Nat) (args : Array Value) (ds gs : List (DataW H)) (before : List MemPlace)
    (hval0 : ∀ (j : Nat) t v, Try.f8.params[j]? = some t → args[j]? = some v → Value.okWide Try.prog W .any base t v)
    (hW : DataW.Whole enc Try.prog Try.f8.params.toList Rows.exactMinorsSpec.vars false W args.toList ds gs before) (hk : (DataW.weightsEach Try.prog (Try.f8.params.toList ++ Rows.exactMinorsSpec.plain.varTypes Try.prog) (ds ++ gs)).all (· ≤ reachBytes) = true) :
    Calls Try.prog 8 args W fun e W' => ∃ v, e = .returned v ∧ Rows.exactMinorsSpec.post enc Try.prog Try.f8 false true false false W args v W' := by
  have hval : ∀ (j : Nat) t v, Try.f8.params[j]? = some t → args[j]? = some v → Value.okWide Try.prog W .any base t v := hval0
  have hW' := hW
  obtain ⟨p, q, hA0, hV, rfl, hfz, hnd⟩ := hW
  have hA : DataW.TrodAll enc Try.prog W 0 (fun _ => true) true Try.f8.params.toList args.toList ds p := hA0
  rw [Try.params8] at hA hval
  obtain ⟨v0, vs0, d0, ds0, p0, q0, hargs, rfl, rfl, h0, r0⟩ := trodAll_cons hA
  obtain ⟨v1, vs1, d1, ds1, p1, q1, e1, rfl, rfl, h1, r1⟩ := trodAll_cons r0
  subst e1
  obtain ⟨v2, vs2, d2, ds2, p2, q2, e2, rfl, rfl, h2, r2⟩ := trodAll_cons r1
  subst e2
  obtain ⟨rfl, rfl, rfl⟩ := trodAll_nil r2
  obtain rfl : args = #[v0, v1, v2] := by cases args; simp_all
  obtain ⟨rfl, rfl⟩ := trodVars_none hV
  have k0 := h0
  have lt0 : ∀ x ∈ p0, x.block < W.heap.size := by obtain ⟨m, hm⟩ := k0; exact DataW.trod_lt m _ _ _ hm
  have g0 : ∀ x, x ∈ d0.weights Try.prog 22 → x ≤ reachBytes := fun x hx => by have := List.all_eq_true.1 hk x (DataW.weights_mem_each (j := 0) (t := 22) (d := d0) rfl rfl x hx); simpa using this
  have k1 := h1
  have lt1 : ∀ x ∈ p1, x.block < W.heap.size := by obtain ⟨m, hm⟩ := k1; exact DataW.trod_lt m _ _ _ hm
  have g1 : ∀ x, x ∈ d1.weights Try.prog 35 → x ≤ reachBytes := fun x hx => by have := List.all_eq_true.1 hk x (DataW.weights_mem_each (j := 1) (t := 35) (d := d1) rfl rfl x hx); simpa using this
  have k2 := h2
  have lt2 : ∀ x ∈ p2, x.block < W.heap.size := by obtain ⟨m, hm⟩ := k2; exact DataW.trod_lt m _ _ _ hm
  have g2 : ∀ x, x ∈ d2.weights Try.prog 35 → x ≤ reachBytes := fun x hx => by have := List.all_eq_true.1 hk x (DataW.weights_mem_each (j := 2) (t := 35) (d := d2) rfl rfl x hx); simpa using this
  obtain ⟨i0, m0, if0, fit0, sid0, w0⟩ := open_rows (hval 0 22 v0 rfl rfl) h0 g0
  obtain ⟨i1, m1, if1, fit1, rng1, w1⟩ := open_places (hval 1 35 v1 rfl rfl) h1 g1
  obtain ⟨i2, m2, if2, fit2, rng2, w2⟩ := open_places (hval 2 35 v2 rfl rfl) h2 g2
  clear hA0 hval0
  have hc := calls_of_pcall1 (P := Try.prog) (f := 8) (w := W) (args := [.sl i0 1 (m0.map Rw.pv), .sl i1 1 (ints m1), .sl i2 1 (ints m2)]) (A := [v0, v1, v2]) tab_none (by
    simp only [LRel]
    exact ⟨_, _, rfl, w0, _, _, rfl, w1, _, _, rfl, w2, rfl⟩) (ExactMinors_call (by omega) i0 i1 i2 m0 m1 m2 fit0 (sid0.mono (by omega)) fit1 fit2 fun n' D _ h => ⟨rfl, h⟩)
  refine hc.mono fun e W' ⟨he, bel⟩ => ?_
  subst he
  exact ⟨_, rfl, _, _, _, [], _, [], hW', trodAll_mk1 (shut_bool Try.underlying4 _), (trodAll_cons_mk (Below.trod laidOut (by kernel_rfl) (of_decide_eq_true (by kernel_rfl)) k0 bel lt0) (trodAll_cons_mk (Below.trod laidOut (by kernel_rfl) (of_decide_eq_true (by kernel_rfl)) k1 bel lt1) (trodAll_cons_mk (Below.trod laidOut (by kernel_rfl) (of_decide_eq_true (by kernel_rfl)) k2 bel lt2) trodAll_mk0))), rfl, bel.frame _, fun h => by cases h⟩

set_option maxRecDepth 100000 in
theorem ExactMinors_lifted (os : Os) (started : os.Started) (H : Type) (enc : TypeId × Value → H) :
    ReturnsInHanded {} Try.checked os 8 .any (Rows.exactMinorsSpec.pre6 enc Try.prog Try.f8 Rows.exactMinorsRow.domain false) (Rows.exactMinorsSpec.post enc Try.prog Try.f8 false true false false) := by
  refine returnsInHanded_of_change_sized (C := Try.checked) own started (by kernel_rfl) Try.func8
    (ChangeSpec.witness6 (enc := enc) (C := Try.checked) false ⟨#[], #[.slice none 0 0, .slice none 0 0, .slice none 0 0], []⟩ 8 (by kernel_rfl) (by kernel_rfl) (by kernel_rfl) (by kernel_rfl)) ?_
  intro W base args ds gs before hval hW _ hk _
  exact ExactMinors_body H enc W base args ds gs before hval hW hk

theorem ExactMinors_over : Rows.exactMinorsRow.holds Try.pinned (OpenSpec.ofChange Rows.exactMinorsSpec) :=
  OpenClaim.holds_of_wide 8 Try.f8 rfl rfl rfl rfl rfl rfl rfl ⟨rfl, rfl, rfl, rfl, rfl⟩ rfl rfl rfl rfl rfl (by kernel_rfl) Try.func8 (by kernel_rfl)
    (of_decide_eq_true (by kernel_rfl)) (by unfold Func.isWrapper; first | (rw [if_pos (by decide +kernel)]; kernel_rfl) | (rw [if_neg (by decide +kernel)]; exact ⟨rfl, rfl⟩))
    (fun os started H enc _ => ExactMinors_lifted os started H enc)

theorem ExactMinors_proved : Rows.ExactMinorsSaid := ExactMinors_over
#print axioms ExactMinors_proved
end Go.Proofs.Ytcdkgeeookcoeaa
