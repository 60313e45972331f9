/- The row DyadicOrders and its card: what the law answers at every input; the table as the program's text lays it. -/
import Derived.Test.YtaankihkejodgaaDoorDlE
import Derived.Test.YtaankihkejodgaaDoorAdB
import Derived.Test.YtaankihkejodgaaDoorCards
import Derived.Test.YtaankihkejodgaaDoorTie
import Derived.SevenTiedAt
set_option linter.unusedVariables false
set_option linter.unusedSimpArgs false
namespace Go.Proofs.YtaankihkejodgaaDoor
open Go.Proofs
open Go.ChangeShapes Go.WideShapes Go.ChangeAt Go.RowKit Go.Joins

theorem DyadicOrders_body (H : Type) (enc : TypeId × Value → H) (W : World) (base : Nat) (args : Array Value) (ds gs : List (DataW H)) (before : List MemPlace)
    (hval0 : ∀ (j : Nat) t v, Tryd.f8.params[j]? = some t → args[j]? = some v → Value.okWide Tryd.prog W .any base t v)
    (hW : DataW.Whole enc Tryd.prog Tryd.f8.params.toList Rows.dyadicOrdersSpec.vars false W args.toList ds gs before) (hk : (DataW.weightsEach Tryd.prog (Tryd.f8.params.toList ++ Rows.dyadicOrdersSpec.plain.varTypes Tryd.prog) (ds ++ gs)).all (· ≤ reachBytes) = true)
    (hL : laidMet Tryd.prog [("math/bits.deBruijn32tab", Rows.laid_math_bits_deBruijn32tab)] W) :
    Calls Tryd.prog 8 args W fun e W' => ∃ v, e = .returned v ∧ Rows.dyadicOrdersSpec.post enc Tryd.prog Tryd.f8 false true false false W args v W' := by
  have htab := table_of_laid hL
  have hval : ∀ (j : Nat) t v, Tryd.f8.params[j]? = some t → args[j]? = some v → Value.okWide Tryd.prog W .any base t v := hval0
  have hW' := hW
  obtain ⟨p, q, hA0, hV, rfl, hfz, hnd⟩ := hW
  have hA : DataW.TrodAll enc Tryd.prog W 0 (fun _ => true) true Tryd.f8.params.toList args.toList ds p := hA0
  rw [Tryd.params8] at hA hval
  obtain ⟨v0, vs0, d0, ds0, p0, q0, hargs, rfl, rfl, h0, r0⟩ := trodAll_cons hA
  obtain ⟨v1, vs1, d1, ds1, p1, q1, e1, rfl, rfl, h1, r1⟩ := trodAll_cons r0
  subst e1
  obtain ⟨rfl, rfl, rfl⟩ := trodAll_nil r1
  obtain rfl : args = #[v0, v1] := by cases args; simp_all
  obtain ⟨rfl, rfl⟩ := trodVars_none hV
  have k0 := h0
  have lt0 : ∀ x ∈ p0, x.block < W.heap.size := by obtain ⟨m, hm⟩ := k0; exact DataW.trod_lt m _ _ _ hm
  have g0 : ∀ x, x ∈ d0.weights Tryd.prog 28 → x ≤ reachBytes := fun x hx => by have := List.all_eq_true.1 hk x (DataW.weights_mem_each (j := 0) (t := 28) (d := d0) rfl rfl x hx); simpa using this
  have k1 := h1
  have lt1 : ∀ x ∈ p1, x.block < W.heap.size := by obtain ⟨m, hm⟩ := k1; exact DataW.trod_lt m _ _ _ hm
  have g1 : ∀ x, x ∈ d1.weights Tryd.prog 28 → x ≤ reachBytes := fun x hx => by have := List.all_eq_true.1 hk x (DataW.weights_mem_each (j := 1) (t := 28) (d := d1) rfl rfl x hx); simpa using this
  obtain ⟨n0, a0, cap0, l0, b0, o0, z0, rfl, w0, wi0, ub0, uw0⟩ := open_dyadic (hval 0 28 v0 rfl rfl) h0
  have len0 : l0.length ≤ 35184372087808 := uw0 g0
  obtain ⟨n1, a1, cap1, l1, b1, o1, z1, rfl, w1, wi1, ub1, uw1⟩ := open_dyadic (hval 1 28 v1 rfl rfl) h1
  have len1 : l1.length ≤ 35184372087808 := uw1 g1
  clear hA0 hval0
  have hc := calls_of_pcall (P := Tryd.prog) (f := 8) (w := W) (pl := [(b0, o0), (b1, o1)]) (args := [Go.Proofs.YtaankihkejodgaaDoor.D n0 ⟨0, 1, 0⟩ l0 z0, Go.Proofs.YtaankihkejodgaaDoor.D n1 ⟨0, 2, 0⟩ l1 z1]) (A := [.agg #[.bool n0, .slice a0 l0.length cap0, .int .i64 z0], .agg #[.bool n1, .slice a1 l1.length cap1, .int .i64 z1]]) htab (by
    simp only [LRel]
    exact ⟨_, _, rfl, vrel_dyadic (g := 0) z0 w0 rfl, _, _, rfl, vrel_dyadic (g := 1) z1 w1 rfl, rfl⟩) (DyadicOrders_call (by simp) n0 n1 _ _ (by simp) (by simp) l0 l1 z0 z1 (by omega) (by omega) w0.lim w1.lim fun n' D _ hD => ⟨rfl, fun x hx => hD x hx⟩)
  refine hc.mono fun e W' ⟨he, bel⟩ => ?_
  subst he
  exact ⟨_, rfl, _, _, _, [], _, [], hW', trodAll_mk1 (shut_bool Tryd.underlying4 _), (trodAll_cons_mk (Below.trod laidOut (by kernel_rfl) (of_decide_eq_true (by kernel_rfl)) k0 bel lt0) (trodAll_cons_mk (Below.trod laidOut (by kernel_rfl) (of_decide_eq_true (by kernel_rfl)) k1 bel lt1) trodAll_mk0)), rfl, bel.frame _, fun h => by cases h⟩

theorem DyadicOrders_met (os : Os) (args : Array Value) : laidMet Tryd.prog [("math/bits.deBruijn32tab", Rows.laid_math_bits_deBruijn32tab)] ((laidWorld os).forCall (fun _ _ => 0) ⟨#[], args, []⟩).memory :=
  laidMet_of_run (ps := (List.range 32).map fun i => .cell 0 i) 8 (by kernel_rfl) (by kernel_rfl) (by kernel_rfl)
set_option maxRecDepth 100000 in
theorem DyadicOrders_lifted (os : Os) (started : os.Started) (H : Type) (enc : TypeId × Value → H) :
    ReturnsInHanded {} Tryd.checked os 8 .any (fun w args => (Rows.dyadicOrdersSpec.pre enc Tryd.prog Tryd.f8 Rows.dyadicOrdersRow.domain false w args ∧ laidMet Tryd.prog [("math/bits.deBruijn32tab", Rows.laid_math_bits_deBruijn32tab)] w) ∧ sizedMet enc Tryd.prog Tryd.f8 (OpenSpec.ofChange Rows.dyadicOrdersSpec) false w args)
      (Rows.dyadicOrdersSpec.post enc Tryd.prog Tryd.f8 false true false false) := by
  refine returnsInHanded_of_change_and (C := Tryd.checked) (X := fun w _ => laidMet Tryd.prog [("math/bits.deBruijn32tab", Rows.laid_math_bits_deBruijn32tab)] w) (fun _ _ _ hh h => h.of_heap hh) own started (by kernel_rfl) Tryd.func8
    (ChangeSpec.witness_at (enc := enc) (C := Tryd.checked) (os := os) (X := fun w _ => laidMet Tryd.prog [("math/bits.deBruijn32tab", Rows.laid_math_bits_deBruijn32tab)] w) false (laidWorld os) #[.agg #[.bool false, .slice none 0 0, .int .i64 0], .agg #[.bool false, .slice none 0 0, .int .i64 0]] 8 rfl (by kernel_rfl) (by kernel_rfl) (by kernel_rfl) (by kernel_rfl) (by kernel_rfl) (DyadicOrders_met os _)) ?_
  intro W base args ds gs before hval hW _ hk hL _
  exact DyadicOrders_body H enc W base args ds gs before hval hW hk hL

theorem DyadicOrders_over : Rows.dyadicOrdersRow.holds Tryd.pinned (OpenSpec.ofChange Rows.dyadicOrdersSpec) :=
  OpenClaim.holds_of_wide 8 Tryd.f8 rfl rfl rfl rfl rfl rfl rfl ⟨rfl, rfl, rfl, rfl, rfl⟩ rfl rfl rfl rfl rfl (by kernel_rfl) Tryd.func8 (by kernel_rfl)
    (of_decide_eq_true (by kernel_rfl)) (by unfold Func.isWrapper; first | (rw [if_pos (by decide +kernel)]; kernel_rfl) | (rw [if_neg (by decide +kernel)]; exact ⟨rfl, rfl⟩))
    (fun os started H enc _ => DyadicOrders_lifted os started H enc)

theorem DyadicOrders_proved : Rows.DyadicOrdersCardSaid :=
  Claim7.holds_tied_plain_at .later [] [.data] true (true, "0e1c23659f39405ea3a6cfaa257ca1f474a89663c95f4d2187b21e2df189fff8") false
    DyadicOrders_over (fun _ h => by cases h) (by kernel_rfl) (fun _ h => by cases h) dyadicOrders_row_tie rfl ⟨rfl, rfl⟩ (by kernel_rfl) rfl
    (fun f fn hf hfn => by
      obtain rfl : f = 8 := Option.some.inj ((show Tryd.prog.funcNamed "dioptra/dioptralaw02.DyadicOrders" = some 8 by kernel_rfl).symm.trans hf) |>.symm
      obtain rfl : fn = Tryd.f8 := (Option.some.inj (Tryd.func8.symm.trans hfn)).symm
      exact ⟨by kernel_rfl, fun j t ht => by
        rw [Tryd.params8] at ht
        have h3 : t = 28 := by
          rcases j with _ | _ | j
          all_goals simp at ht
          all_goals (subst ht; simp)
        subst h3
        exact (show Tryd.prog.wantsStandIn 28 = false by kernel_rfl)⟩)
    (by kernel_rfl)
#print axioms DyadicOrders_proved
end Go.Proofs.YtaankihkejodgaaDoor
