/- The row WholeProducts: what the law answers at every input of a bulk that the row tells. -/
import Derived.Test.YtjnedccjfnappaaClB
import Derived.Test.YtjnedccjfnappaaAdB
set_option linter.unusedVariables false
set_option linter.unusedSimpArgs false
namespace Go.Proofs.Ytjnedccjfnappaa
open Go.Proofs
open Go.ChangeShapes Go.WideShapes Go.ChangeAt Go.RowKit Go.Joins

theorem WholeProducts_body (H : Type) (enc : TypeId × Value → H) (W : World) (base : Nat) (args : Array Value) (ds gs : List (DataW H)) (before : List MemPlace)
    (hval0 : ∀ (j : Nat) t v, Try.f5.params[j]? = some t → args[j]? = some v → Value.okWide Try.prog W .any base t v)
    (hW : DataW.Whole enc Try.prog Try.f5.params.toList Rows.wholeProductsSpec.vars false W args.toList ds gs before) (hk : Rows.uptoSmall H (ds ++ gs) = true) :
    Calls Try.prog 5 args W fun e W' => ∃ v, e = .returned v ∧ Rows.wholeProductsSpec.post enc Try.prog Try.f5 false true false false W args v W' := by
  have hval : ∀ (j : Nat) t v, Try.f5.params[j]? = some t → args[j]? = some v → Value.okWide Try.prog W .any base t v := hval0
  have hW' := hW
  obtain ⟨p, q, hA0, hV, rfl, hfz, hnd⟩ := hW
  have hA : DataW.TrodAll enc Try.prog W 0 (fun _ => true) true Try.f5.params.toList args.toList ds p := hA0
  rw [Try.params5] at hA hval
  obtain ⟨v0, vs0, d0, ds0, p0, q0, hargs, rfl, rfl, h0, r0⟩ := trodAll_cons hA
  obtain ⟨v1, vs1, d1, ds1, p1, q1, e1, rfl, rfl, h1, r1⟩ := trodAll_cons r0
  subst e1
  obtain ⟨rfl, rfl, rfl⟩ := trodAll_nil r1
  obtain rfl : args = #[v0, v1] := by cases args; simp_all
  obtain ⟨rfl, rfl⟩ := trodVars_none hV
  have k0 := h0
  have lt0 : ∀ x ∈ p0, x.block < W.heap.size := by obtain ⟨m, hm⟩ := k0; exact DataW.trod_lt m _ _ _ hm
  have k1 := h1
  have lt1 : ∀ x ∈ p1, x.block < W.heap.size := by obtain ⟨m, hm⟩ := k1; exact DataW.trod_lt m _ _ _ hm
  have hk : Rows.uptoBulkAll (_ : List (DataW H)) ≤ 1048576 := of_decide_eq_true hk
  simp only [List.append_nil, List.cons_append, List.nil_append, Rows.uptoBulkAll] at hk
  obtain ⟨n0, a0, cap0, l0, b0, o0, rfl, w0⟩ := open_whole (hval 0 24 v0 rfl rfl) h0
  have u0 := whole_len (hval 0 24 _ rfl rfl) h0
  have len0 : l0.length ≤ 1048576 := by have := u0.1; omega
  obtain ⟨n1, a1, cap1, l1, b1, o1, rfl, w1⟩ := open_whole (hval 1 24 v1 rfl rfl) h1
  have u1 := whole_len (hval 1 24 _ rfl rfl) h1
  have len1 : l1.length ≤ 1048576 := by have := u1.1; omega
  clear hA0 hval0
  have hc := calls_of_clean (P := Try.prog) (f := 5) (w := W) (pl := [(b0, o0), (b1, o1)]) (args := [Go.Proofs.Ytjnedccjfnappaa.W n0 ⟨0, 1, 0⟩ l0, Go.Proofs.Ytjnedccjfnappaa.W n1 ⟨0, 2, 0⟩ l1]) (A := [.agg #[.bool n0, .slice a0 l0.length cap0], .agg #[.bool n1, .slice a1 l1.length cap1]]) (by
    simp only [LRel]
    exact ⟨_, _, rfl, vrel_whole (g := 0) w0 rfl, _, _, rfl, vrel_whole (g := 1) w1 rfl, rfl⟩) (WholeProducts_call (by simp) n0 n1 _ _ (by simp) (by simp) l0 l1 (by omega) (by omega) w0.lim w1.lim fun n' D _ hD => ⟨rfl, fun x hx => hD x hx⟩)
  refine hc.mono fun e W' ⟨he, bel⟩ => ?_
  subst he
  exact ⟨_, rfl, _, _, _, [], _, [], hW', trodAll_mk1 (shut_bool Try.underlying4 _), (trodAll_cons_mk (Below.trod laidOut (by kernel_rfl) (of_decide_eq_true (by kernel_rfl)) k0 bel lt0) (trodAll_cons_mk (Below.trod laidOut (by kernel_rfl) (of_decide_eq_true (by kernel_rfl)) k1 bel lt1) trodAll_mk0)), rfl, bel.frame _, fun h => by cases h⟩

set_option maxRecDepth 100000 in
theorem WholeProducts_lifted (os : Os) (started : os.Started) (H : Type) (enc : TypeId × Value → H) (F : Stop.Interp) :
    ReturnsInHanded {} Try.checked os 5 .any ((Rows.OpenSpec.upto Rows.wholeProductsSpec).pre6 enc Try.prog Try.f5 Rows.wholeProductsUptoRow.domain false) (((Rows.OpenSpec.upto Rows.wholeProductsSpec).at F).post enc Try.prog Try.f5 false true false false) := by
  refine returnsInHanded_of_cond (C := Try.checked) (s := Rows.OpenSpec.upto Rows.wholeProductsSpec) (k := Rows.uptoSmall) rfl own started (by kernel_rfl) Try.func5
    (OpenSpec.witness (enc := enc) (C := Try.checked) (s := Rows.OpenSpec.upto Rows.wholeProductsSpec) (k := Rows.uptoSmall) rfl false ⟨#[], #[.agg #[.bool false, .slice none 0 0], .agg #[.bool false, .slice none 0 0]], []⟩ 8 (by kernel_rfl) (by kernel_rfl) (by kernel_rfl)
      (x := ([.agg [.lit (.bool false), .nil], .agg [.lit (.bool false), .nil]], [], [])) (by kernel_rfl) rfl (by kernel_rfl)) ?_
  intro W base args ds gs before hval hW _ hk _
  exact WholeProducts_body H enc W base args ds gs before hval hW hk

theorem WholeProducts_over : Rows.wholeProductsUptoRow.holds Try.pinned (Rows.OpenSpec.upto Rows.wholeProductsSpec) :=
  OpenClaim.holds_of_cond 5 Try.f5 rfl rfl rfl rfl rfl rfl rfl ⟨rfl, rfl, rfl, rfl, rfl⟩ rfl rfl rfl rfl rfl (by kernel_rfl) Try.func5 (by kernel_rfl)
    (of_decide_eq_true (by kernel_rfl)) (by unfold Func.isWrapper; first | (rw [if_pos (by decide +kernel)]; kernel_rfl) | (rw [if_neg (by decide +kernel)]; exact ⟨rfl, rfl⟩))
    (fun os started H enc _ F => WholeProducts_lifted os started H enc F)

theorem WholeProducts_proved : Rows.WholeProductsUptoSaid := WholeProducts_over
#print axioms WholeProducts_proved
end Go.Proofs.Ytjnedccjfnappaa
