/- The row CertifySquares and its card: what the law answers at every input; the table as the program's text lays it. -/
import Derived.Test.YtphndngifjgeoaaGreatDoorCzC
import Derived.Test.YtphndngifjgeoaaGreatDoorAdB
import Derived.Test.YtphndngifjgeoaaGreatDoorCards
import Derived.Test.YtphndngifjgeoaaGreatDoorTie
import Derived.SevenTiedAt
set_option linter.unusedVariables false
set_option linter.unusedSimpArgs false
set_option maxRecDepth 20000
namespace Go.Proofs.YtphndngifjgeoaaGreatDoor
open Go.Proofs
open Go.ChangeShapes Go.WideShapes Go.ChangeAt Go.RowKit Go.Joins

theorem CertifySquares_body (H : Type) (enc : TypeId × Value → H) (W : World) (base : Nat) (args : Array Value) (ds gs : List (DataW H)) (before : List MemPlace)
    (hval0 : ∀ (j : Nat) t v, Tryz.f3.params[j]? = some t → args[j]? = some v → Value.okWide Tryz.prog W .any base t v)
    (hW : DataW.Whole enc Tryz.prog Tryz.f3.params.toList Rows.certifySquaresSpec.vars false W args.toList ds gs before) (hk : (DataW.weightsEach Tryz.prog (Tryz.f3.params.toList ++ Rows.certifySquaresSpec.plain.varTypes Tryz.prog) (ds ++ gs)).all (· ≤ reachBytes) = true)
    (hL : laidMet Tryz.prog [("math/bits.deBruijn32tab", Rows.laid_math_bits_deBruijn32tab)] W) :
    Calls Tryz.prog 3 args W fun e W' => ∃ v, e = .returned v ∧ Rows.certifySquaresSpec.post enc Tryz.prog Tryz.f3 false true false false W args v W' := by
  have htab := table_of_laid hL
  have hval : ∀ (j : Nat) t v, Tryz.f3.params[j]? = some t → args[j]? = some v → Value.okWide Tryz.prog W .any base t v := hval0
  have hW' := hW
  obtain ⟨p, q, hA0, hV, rfl, hfz, hnd⟩ := hW
  have hA : DataW.TrodAll enc Tryz.prog W 0 (fun _ => true) true Tryz.f3.params.toList args.toList ds p := hA0
  rw [Tryz.params3] at hA hval
  obtain ⟨v0, vs0, d0, ds0, p0, q0, hargs, rfl, rfl, h0, r0⟩ := trodAll_cons hA
  obtain ⟨rfl, rfl, rfl⟩ := trodAll_nil r0
  obtain rfl : args = #[v0] := by cases args; simp_all
  obtain ⟨rfl, rfl⟩ := trodVars_none hV
  have k0 := h0
  have lt0 : ∀ x ∈ p0, x.block < W.heap.size := by obtain ⟨m, hm⟩ := k0; exact DataW.trod_lt m _ _ _ hm
  have g0 : ∀ x, x ∈ d0.weights Tryz.prog 24 → x ≤ reachBytes := fun x hx => by have := List.all_eq_true.1 hk x (DataW.weights_mem_each (j := 0) (t := 24) (d := d0) rfl rfl x hx); simpa using this
  obtain ⟨rr0, cc0, i0, l0, if0, len0, bt0, w0⟩ := open_matrix (hval 0 24 v0 rfl rfl) h0 g0
  clear hA0 hval0
  have hc := calls_of_pcall1 (P := Tryz.prog) (f := 3) (w := W) (args := [Go.Proofs.YtphndngifjgeoaaGreatDoor.Mx rr0 cc0 i0 l0]) (A := [v0]) htab (by
    simp only [LRel]
    exact ⟨_, _, rfl, w0, rfl⟩) ((Squares_law (by simp) rr0 cc0 i0 l0 len0 bt0).mono fun _ _ _ _ ⟨h1, h2⟩ => ⟨h1, by rw [h2]; simp⟩)
  refine hc.mono fun e W' ⟨he, bel⟩ => ?_
  subst he
  exact ⟨_, rfl, _, _, _, [], _, [], hW', trodAll_mk1 (shut_bool Tryz.underlying4 _), (trodAll_cons_mk (Below.trod laidOut (by kernel_rfl) (of_decide_eq_true (by kernel_rfl)) k0 bel lt0) trodAll_mk0), rfl, bel.frame _, fun h => by cases h⟩

theorem CertifySquares_met (os : Os) (args : Array Value) : laidMet Tryz.prog [("math/bits.deBruijn32tab", Rows.laid_math_bits_deBruijn32tab)] ((laidWorld os).forCall (fun _ _ => 0) ⟨#[], args, []⟩).memory :=
  laidMet_of_run (ps := (List.range 32).map fun i => .cell 0 i) 8 (by kernel_rfl) (by kernel_rfl) (by kernel_rfl)
set_option maxRecDepth 100000 in
theorem CertifySquares_lifted (os : Os) (started : os.Started) (H : Type) (enc : TypeId × Value → H) :
    ReturnsInHanded {} Tryz.checked os 3 .any (fun w args => (Rows.certifySquaresSpec.pre enc Tryz.prog Tryz.f3 Rows.certifySquaresRow.domain false w args ∧ laidMet Tryz.prog [("math/bits.deBruijn32tab", Rows.laid_math_bits_deBruijn32tab)] w) ∧ sizedMet enc Tryz.prog Tryz.f3 (OpenSpec.ofChange Rows.certifySquaresSpec) false w args)
      (Rows.certifySquaresSpec.post enc Tryz.prog Tryz.f3 false true false false) := by
  refine returnsInHanded_of_change_and (C := Tryz.checked) (X := fun w _ => laidMet Tryz.prog [("math/bits.deBruijn32tab", Rows.laid_math_bits_deBruijn32tab)] w) (fun _ _ _ hh h => h.of_heap hh) own started (by kernel_rfl) Tryz.func3
    (ChangeSpec.witness_at (enc := enc) (C := Tryz.checked) (os := os) (X := fun w _ => laidMet Tryz.prog [("math/bits.deBruijn32tab", Rows.laid_math_bits_deBruijn32tab)] w) false (laidWorld os) #[.agg #[.int .i64 0, .int .i64 0, .slice none 0 0]] 8 rfl (by kernel_rfl) (by kernel_rfl) (by kernel_rfl) (by kernel_rfl) (by kernel_rfl) (CertifySquares_met os _)) ?_
  intro W base args ds gs before hval hW _ hk hL _
  exact CertifySquares_body H enc W base args ds gs before hval hW hk hL

theorem CertifySquares_over : Rows.certifySquaresRow.holds Tryz.pinned (OpenSpec.ofChange Rows.certifySquaresSpec) :=
  OpenClaim.holds_of_wide 3 Tryz.f3 rfl rfl rfl rfl rfl rfl rfl ⟨rfl, rfl, rfl, rfl, rfl⟩ rfl rfl rfl rfl rfl (by kernel_rfl) Tryz.func3 (by kernel_rfl)
    (of_decide_eq_true (by kernel_rfl)) (by unfold Func.isWrapper; first | (rw [if_pos (by decide +kernel)]; kernel_rfl) | (rw [if_neg (by decide +kernel)]; exact ⟨rfl, rfl⟩))
    (fun os started H enc _ => CertifySquares_lifted os started H enc)

theorem CertifySquares_proved : Rows.CertifySquaresCardSaid :=
  Claim7.holds_tied_plain_at .later [] [.data] true (true, "a63b161686d3a07c94d628dbf03deb271f2aa3154b73fd6886e7e36219c5702c") false
    CertifySquares_over (fun _ h => by cases h) (by kernel_rfl) (fun _ h => by cases h) certifySquares_row_tie rfl ⟨rfl, rfl⟩ (by kernel_rfl) rfl
    (fun f fn hf hfn => by
      obtain rfl : f = 3 := Option.some.inj ((show Tryz.prog.funcNamed "dioptra/dioptralaw11.CertifySquares" = some 3 by kernel_rfl).symm.trans hf) |>.symm
      obtain rfl : fn = Tryz.f3 := (Option.some.inj (Tryz.func3.symm.trans hfn)).symm
      exact ⟨by kernel_rfl, fun j t ht => by
        rw [Tryz.params3] at ht
        have h3 : t = 24 := by
          rcases j with _ | j
          all_goals simp at ht
          all_goals (subst ht; simp)
        subst h3
        exact (show Tryz.prog.wantsStandIn 24 = false by kernel_rfl)⟩)
    (by kernel_rfl)
#print axioms CertifySquares_proved
end Go.Proofs.YtphndngifjgeoaaGreatDoor
