/-
  No cell of these rows narrows 'for every input' (looked for: loops, veiled, ifaces, maps, wideKeys, modest, calm, conditions, laid).
  DERIVED. THE GIVEN ROWS OF THIS SEAT. 6 by the template 'for every input the law returns true; each argument reads behind the call as it read before'; 0 by the template 'total and deterministic' (their statements: YtcdkgeeookcoeaaTotals.lean).
  GIVEN WITH THE SEED: the statements are not yours to turn. If you find one false, say at which input.
  Laid BY PROGRAM, IN A SANDBOX (cutbox-rows.mjs): the forced cells as the released guide's own fill.sh prints them over the translation eea3fb72bef8313d… (all of the seat's roots in one cut). By AI agents, Wed Nov 11 2026. No macro, syntax, notation, axiom, sorry.
-/
import Derived.Test.YtcdkgeeookcoeaaChecked
import GoSem.Claim
import GoSem.ClaimJoined
import GoSem.ClaimMapViews
import Derived.JoinedTies
import Derived.KernelRfl
namespace Go.Proofs.Ytcdkgeeookcoeaa
/- THE CELL 'sum', in the pinned program and in every row, IS THE sha256 OF THE DUMP (.gsa) THAT YtcdkgeeookcoeaaProg.lean LOADS. Nothing in Lean hashes anything: it is a label: what it is worth is what the hold of that sum in a sandbox is worth. -/
noncomputable def Try.pinned : Pinned := { name := "ytcdkgeeookcoeaa", sum := "eea3fb72bef8313db28e8741c4ddb0bad275b564c7a345a5514f2ea92ee40454", checked := Try.checked }
namespace Rows
def none {H : Type} : Left H := { results := [], args := [] }

/-- 'dioptralaw03.ExactChecks': WHATEVER THE INPUT: true; the input reads as it did. -/
def exactChecksSpec : ChangeSpec := { name := "exactChecks", fn := fun _ => fun
  | [d] => { results := [.lit (.bool true)], args := [d] }
  | _ => none }
def exactChecksRow : OpenClaim := { program := "ytcdkgeeookcoeaa", sum := "eea3fb72bef8313db28e8741c4ddb0bad275b564c7a345a5514f2ea92ee40454", func := "dioptra/dioptralaw03.ExactChecks", spec := "exactChecks", plainKeys := false, apart := false }
def ExactChecksSaid : Prop := exactChecksRow.holds Try.pinned (OpenSpec.ofChange exactChecksSpec)

/-- ITS FALSE NEIGHBOUR: 'it returns false'. Refute it at one input. -/
def exactChecksWrong : ChangeSpec := { name := "exactChecks", fn := fun _ => fun
  | [d] => { results := [.lit (.bool false)], args := [d] }
  | _ => none }
def ExactChecksWrongFalsely : Prop := exactChecksRow.holds Try.pinned (OpenSpec.ofChange exactChecksWrong)

/-- 'dioptralaw03.ExactDets': WHATEVER THE INPUT: true; the input reads as it did. -/
def exactDetsSpec : ChangeSpec := { name := "exactDets", fn := fun _ => fun
  | [d] => { results := [.lit (.bool true)], args := [d] }
  | _ => none }
def exactDetsRow : OpenClaim := { program := "ytcdkgeeookcoeaa", sum := "eea3fb72bef8313db28e8741c4ddb0bad275b564c7a345a5514f2ea92ee40454", func := "dioptra/dioptralaw03.ExactDets", spec := "exactDets", recurses := true, plainKeys := false, apart := false }
def ExactDetsSaid : Prop := exactDetsRow.holds Try.pinned (OpenSpec.ofChange exactDetsSpec)

/-- ITS FALSE NEIGHBOUR: 'it returns false'. Refute it at one input. -/
def exactDetsWrong : ChangeSpec := { name := "exactDets", fn := fun _ => fun
  | [d] => { results := [.lit (.bool false)], args := [d] }
  | _ => none }
def ExactDetsWrongFalsely : Prop := exactDetsRow.holds Try.pinned (OpenSpec.ofChange exactDetsWrong)

/-- 'dioptralaw03.ExactRanks': WHATEVER THE INPUT: true; the input reads as it did. -/
def exactRanksSpec : ChangeSpec := { name := "exactRanks", fn := fun _ => fun
  | [d] => { results := [.lit (.bool true)], args := [d] }
  | _ => none }
def exactRanksRow : OpenClaim := { program := "ytcdkgeeookcoeaa", sum := "eea3fb72bef8313db28e8741c4ddb0bad275b564c7a345a5514f2ea92ee40454", func := "dioptra/dioptralaw03.ExactRanks", spec := "exactRanks", plainKeys := false, apart := false }
def ExactRanksSaid : Prop := exactRanksRow.holds Try.pinned (OpenSpec.ofChange exactRanksSpec)

/-- ITS FALSE NEIGHBOUR: 'it returns false'. Refute it at one input. -/
def exactRanksWrong : ChangeSpec := { name := "exactRanks", fn := fun _ => fun
  | [d] => { results := [.lit (.bool false)], args := [d] }
  | _ => none }
def ExactRanksWrongFalsely : Prop := exactRanksRow.holds Try.pinned (OpenSpec.ofChange exactRanksWrong)

/-- 'dioptralaw03.ExactTurns': WHATEVER THE INPUT: true; the input reads as it did. -/
def exactTurnsSpec : ChangeSpec := { name := "exactTurns", fn := fun _ => fun
  | [d1, d2, d3] => { results := [.lit (.bool true)], args := [d1, d2, d3] }
  | _ => none }
def exactTurnsRow : OpenClaim := { program := "ytcdkgeeookcoeaa", sum := "eea3fb72bef8313db28e8741c4ddb0bad275b564c7a345a5514f2ea92ee40454", func := "dioptra/dioptralaw03.ExactTurns", spec := "exactTurns", plainKeys := false, apart := false }
def ExactTurnsSaid : Prop := exactTurnsRow.holds Try.pinned (OpenSpec.ofChange exactTurnsSpec)

/-- ITS FALSE NEIGHBOUR: 'it returns false'. Refute it at one input. -/
def exactTurnsWrong : ChangeSpec := { name := "exactTurns", fn := fun _ => fun
  | [d1, d2, d3] => { results := [.lit (.bool false)], args := [d1, d2, d3] }
  | _ => none }
def ExactTurnsWrongFalsely : Prop := exactTurnsRow.holds Try.pinned (OpenSpec.ofChange exactTurnsWrong)

/-- 'dioptralaw03.ExactSums': WHATEVER THE INPUT: true; the input reads as it did. -/
def exactSumsSpec : ChangeSpec := { name := "exactSums", fn := fun _ => fun
  | [d1, d2] => { results := [.lit (.bool true)], args := [d1, d2] }
  | _ => none }
def exactSumsRow : OpenClaim := { program := "ytcdkgeeookcoeaa", sum := "eea3fb72bef8313db28e8741c4ddb0bad275b564c7a345a5514f2ea92ee40454", func := "dioptra/dioptralaw03.ExactSums", spec := "exactSums", plainKeys := false, apart := false }
def ExactSumsSaid : Prop := exactSumsRow.holds Try.pinned (OpenSpec.ofChange exactSumsSpec)

/-- ITS FALSE NEIGHBOUR: 'it returns false'. Refute it at one input. -/
def exactSumsWrong : ChangeSpec := { name := "exactSums", fn := fun _ => fun
  | [d1, d2] => { results := [.lit (.bool false)], args := [d1, d2] }
  | _ => none }
def ExactSumsWrongFalsely : Prop := exactSumsRow.holds Try.pinned (OpenSpec.ofChange exactSumsWrong)

/-- 'dioptralaw03.ExactMinors': WHATEVER THE INPUT: true; the input reads as it did. -/
def exactMinorsSpec : ChangeSpec := { name := "exactMinors", fn := fun _ => fun
  | [d1, d2, d3] => { results := [.lit (.bool true)], args := [d1, d2, d3] }
  | _ => none }
def exactMinorsRow : OpenClaim := { program := "ytcdkgeeookcoeaa", sum := "eea3fb72bef8313db28e8741c4ddb0bad275b564c7a345a5514f2ea92ee40454", func := "dioptra/dioptralaw03.ExactMinors", spec := "exactMinors", recurses := true, plainKeys := false, apart := false }
def ExactMinorsSaid : Prop := exactMinorsRow.holds Try.pinned (OpenSpec.ofChange exactMinorsSpec)

/-- ITS FALSE NEIGHBOUR: 'it returns false'. Refute it at one input. -/
def exactMinorsWrong : ChangeSpec := { name := "exactMinors", fn := fun _ => fun
  | [d1, d2, d3] => { results := [.lit (.bool false)], args := [d1, d2, d3] }
  | _ => none }
def ExactMinorsWrongFalsely : Prop := exactMinorsRow.holds Try.pinned (OpenSpec.ofChange exactMinorsWrong)

/- THE SECOND FORM. 'bulk': how many values and letters a reading holds, each counted each time it is reached (what is shared counts as often as it is met; a slice's spare places count too). A statement '..UptoSaid' is the law's where the arguments, and the package variables that the reading takes, are together of bulk at most 1048576: NARROWER than '..Said'. Prove '..Said' where nothing that the law and all that it calls make is longer than what came in: it says more and counts as full. Else prove '..UptoSaid'. A law counts once. -/
mutual
def uptoBulk {H : Type} : DataW H → Nat
  | .lit (.string bytes) => bytes.length + 1
  | .lit _ => 1
  | .nil => 1
  | .ptr d => uptoBulk d + 1
  | .slice elems spare => uptoBulkAll elems + uptoBulkAll spare + 1
  | .agg parts => uptoBulkAll parts + 1
  | .iface _ d => uptoBulk d + 1
  | .map entries => uptoBulkEntries entries + 1
  | .held _ => 1
def uptoBulkAll {H : Type} : List (DataW H) → Nat
  | [] => 0
  | d :: r => uptoBulk d + uptoBulkAll r
def uptoBulkEntries {H : Type} : List (Lit × DataW H) → Nat
  | [] => 0
  | x :: r => uptoBulkEntry x + uptoBulkEntries r
def uptoBulkEntry {H : Type} : Lit × DataW H → Nat
  | (.string bytes, d) => bytes.length + uptoBulk d + 1
  | (_, d) => uptoBulk d + 1
 end
def uptoSmall : (H : Type) → List (DataW H) → Bool := fun _ ds => decide (uptoBulkAll ds ≤ 1048576)
def OpenSpec.upto (s : _root_.Go.ChangeSpec) : _root_.Go.OpenSpec := { _root_.Go.OpenSpec.ofChange s with cond := some uptoSmall }

/-- 'dioptralaw03.ExactChecks', WHERE WHAT IT READS IS OF BULK AT MOST 1048576: true; the input reads as it did. -/
def exactChecksUptoRow : OpenClaim := { program := "ytcdkgeeookcoeaa", sum := "eea3fb72bef8313db28e8741c4ddb0bad275b564c7a345a5514f2ea92ee40454", func := "dioptra/dioptralaw03.ExactChecks", spec := "exactChecks", plainKeys := false, apart := false, narrowed := true }
def ExactChecksUptoSaid : Prop := exactChecksUptoRow.holds Try.pinned (OpenSpec.upto exactChecksSpec)

/-- 'dioptralaw03.ExactDets', WHERE WHAT IT READS IS OF BULK AT MOST 1048576: true; the input reads as it did. -/
def exactDetsUptoRow : OpenClaim := { program := "ytcdkgeeookcoeaa", sum := "eea3fb72bef8313db28e8741c4ddb0bad275b564c7a345a5514f2ea92ee40454", func := "dioptra/dioptralaw03.ExactDets", spec := "exactDets", recurses := true, plainKeys := false, apart := false, narrowed := true }
def ExactDetsUptoSaid : Prop := exactDetsUptoRow.holds Try.pinned (OpenSpec.upto exactDetsSpec)

/-- 'dioptralaw03.ExactRanks', WHERE WHAT IT READS IS OF BULK AT MOST 1048576: true; the input reads as it did. -/
def exactRanksUptoRow : OpenClaim := { program := "ytcdkgeeookcoeaa", sum := "eea3fb72bef8313db28e8741c4ddb0bad275b564c7a345a5514f2ea92ee40454", func := "dioptra/dioptralaw03.ExactRanks", spec := "exactRanks", plainKeys := false, apart := false, narrowed := true }
def ExactRanksUptoSaid : Prop := exactRanksUptoRow.holds Try.pinned (OpenSpec.upto exactRanksSpec)

/-- 'dioptralaw03.ExactTurns', WHERE WHAT IT READS IS OF BULK AT MOST 1048576: true; the input reads as it did. -/
def exactTurnsUptoRow : OpenClaim := { program := "ytcdkgeeookcoeaa", sum := "eea3fb72bef8313db28e8741c4ddb0bad275b564c7a345a5514f2ea92ee40454", func := "dioptra/dioptralaw03.ExactTurns", spec := "exactTurns", plainKeys := false, apart := false, narrowed := true }
def ExactTurnsUptoSaid : Prop := exactTurnsUptoRow.holds Try.pinned (OpenSpec.upto exactTurnsSpec)

/-- 'dioptralaw03.ExactSums', WHERE WHAT IT READS IS OF BULK AT MOST 1048576: true; the input reads as it did. -/
def exactSumsUptoRow : OpenClaim := { program := "ytcdkgeeookcoeaa", sum := "eea3fb72bef8313db28e8741c4ddb0bad275b564c7a345a5514f2ea92ee40454", func := "dioptra/dioptralaw03.ExactSums", spec := "exactSums", plainKeys := false, apart := false, narrowed := true }
def ExactSumsUptoSaid : Prop := exactSumsUptoRow.holds Try.pinned (OpenSpec.upto exactSumsSpec)

/-- 'dioptralaw03.ExactMinors', WHERE WHAT IT READS IS OF BULK AT MOST 1048576: true; the input reads as it did. -/
def exactMinorsUptoRow : OpenClaim := { program := "ytcdkgeeookcoeaa", sum := "eea3fb72bef8313db28e8741c4ddb0bad275b564c7a345a5514f2ea92ee40454", func := "dioptra/dioptralaw03.ExactMinors", spec := "exactMinors", recurses := true, plainKeys := false, apart := false, narrowed := true }
def ExactMinorsUptoSaid : Prop := exactMinorsUptoRow.holds Try.pinned (OpenSpec.upto exactMinorsSpec)

end Rows
end Go.Proofs.Ytcdkgeeookcoeaa
