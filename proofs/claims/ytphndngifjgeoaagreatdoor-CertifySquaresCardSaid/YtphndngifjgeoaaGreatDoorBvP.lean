/- The by-value logic, part P: what a call is said to have written may be said wider; what is new is not old. -/
import Derived.Test.YtphndngifjgeoaaGreatDoorBvO
set_option linter.unusedVariables false
set_option linter.unusedSimpArgs false
namespace Go.Proofs.YtphndngifjgeoaaGreatDoor

/-- What is said to be written may be more than what is. -/
theorem PCall.widen {P : Program} {f : FuncId} {args : List PV} {n : Nat} {Q : PV → Nat → List Nat → Prop} (h : PCall P f args n (fun v n' D => ∃ D', (∀ x, x ∈ D → x ∈ D') ∧ Q v n' D')) : PCall P f args n Q := by
  obtain ⟨v, n', D, g, hn, D', hD, q⟩ := h
  refine ⟨v, n', D', fun L w A h1 h2 h3 => (g L w A h1 h2 h3).mono fun e w' ⟨L', V, he, hv, hx, hb, hgua⟩ => ⟨L', V, he, hv, hx, hb, hgua.mono hD⟩, hn, q⟩
/-- What was made within the call is no one's but the call's. -/
theorem PCall.strip {P : Program} {f : FuncId} {args : List PV} {n : Nat} {Q : PV → Nat → List Nat → Prop} (h : PCall P f args n (fun v n' D => ∃ D', (∀ x, x ∈ D → x < n → x ∈ D') ∧ Q v n' D')) : PCall P f args n Q := by
  obtain ⟨v, n', D, g, hn, D', hD, q⟩ := h
  refine ⟨v, n', D', fun L w A h1 h2 h3 => (g L w A h1 h2 h3).mono fun e w' ⟨L', V, he, hv, hx, hb, k⟩ => ⟨L', V, he, hv, hx, hb,
    ⟨k.size, k.os, k.tape, k.output, k.nx, k.pl, k.fam, k.lim, fun b hb hf hm hq => k.old b hb (fun f e => ⟨(hf f e).1, fun hh => (hf f e).2 (hD f hh (hf f e).1)⟩) hm hq, k.row, k.hbm, k.nbm, k.mp⟩⟩, hn, q⟩
/-- A call that writes nothing that was there. -/
theorem PCall.clean {P : Program} {f : FuncId} {args : List PV} {n : Nat} {Q : PV → Nat → List Nat → Prop} (h : PCall P f args n (fun v n' D => (∀ x, x ∈ D → n ≤ x) ∧ Q v n' [])) : PCall P f args n Q :=
  PCall.strip (h.mono fun v n' D _ ⟨h1, h2⟩ => ⟨[], fun x hx hl => by have := h1 x hx; omega, h2⟩)
end Go.Proofs.YtphndngifjgeoaaGreatDoor
