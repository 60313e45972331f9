/-
  No cell of these rows narrows 'for every input' (looked for: loops, veiled, ifaces, maps, wideKeys, modest, calm, conditions, laid).
  DERIVED. THE GIVEN ROWS OF THIS SEAT. 8 by the template 'for every input the law returns true; each argument reads behind the call as it read before'; 0 by the template 'total and deterministic' (their statements: YtjnedccjfnappaaTotals.lean).
  GIVEN WITH THE SEED: the statements are not yours to turn. If you find one false, say at which input.
  Laid BY PROGRAM, IN A SANDBOX (cutbox-rows.mjs): the forced cells as the released guide's own fill.sh prints them over the translation 47145d78f68c7605… (all of the seat's roots in one cut). By AI agents, Wed Nov 11 2026. No macro, syntax, notation, axiom, sorry.
-/
import Derived.Test.YtjnedccjfnappaaChecked
import GoSem.Claim
import GoSem.ClaimJoined
import GoSem.ClaimMapViews
import Derived.JoinedTies
import Derived.KernelRfl
namespace Go.Proofs.Ytjnedccjfnappaa
/- THE CELL 'sum', in the pinned program and in every row, IS THE sha256 OF THE DUMP (.gsa) THAT YtjnedccjfnappaaProg.lean LOADS. Nothing in Lean hashes anything: it is a label: what it is worth is what the hold of that sum in a sandbox is worth. -/
noncomputable def Try.pinned : Pinned := { name := "ytjnedccjfnappaa", sum := "47145d78f68c760501b4e2946627696e0f6b616b2be2f97acef28927bbd47ab2", checked := Try.checked }
namespace Rows
def none {H : Type} : Left H := { results := [], args := [] }

/-- 'dioptralaw01.WholeChecks': WHATEVER THE INPUT: true; the input reads as it did. -/
def wholeChecksSpec : ChangeSpec := { name := "wholeChecks", fn := fun _ => fun
  | [d] => { results := [.lit (.bool true)], args := [d] }
  | _ => none }
def wholeChecksRow : OpenClaim := { program := "ytjnedccjfnappaa", sum := "47145d78f68c760501b4e2946627696e0f6b616b2be2f97acef28927bbd47ab2", func := "dioptra/dioptralaw01.WholeChecks", spec := "wholeChecks", apart := false }
def WholeChecksSaid : Prop := wholeChecksRow.holds Try.pinned (OpenSpec.ofChange wholeChecksSpec)

/-- ITS FALSE NEIGHBOUR: 'it returns false'. Refute it at one input. -/
def wholeChecksWrong : ChangeSpec := { name := "wholeChecks", fn := fun _ => fun
  | [d] => { results := [.lit (.bool false)], args := [d] }
  | _ => none }
def WholeChecksWrongFalsely : Prop := wholeChecksRow.holds Try.pinned (OpenSpec.ofChange wholeChecksWrong)

/-- 'dioptralaw01.WholeSums': WHATEVER THE INPUT: true; the input reads as it did. -/
def wholeSumsSpec : ChangeSpec := { name := "wholeSums", fn := fun _ => fun
  | [d1, d2] => { results := [.lit (.bool true)], args := [d1, d2] }
  | _ => none }
def wholeSumsRow : OpenClaim := { program := "ytjnedccjfnappaa", sum := "47145d78f68c760501b4e2946627696e0f6b616b2be2f97acef28927bbd47ab2", func := "dioptra/dioptralaw01.WholeSums", spec := "wholeSums", apart := false }
def WholeSumsSaid : Prop := wholeSumsRow.holds Try.pinned (OpenSpec.ofChange wholeSumsSpec)

/-- ITS FALSE NEIGHBOUR: 'it returns false'. Refute it at one input. -/
def wholeSumsWrong : ChangeSpec := { name := "wholeSums", fn := fun _ => fun
  | [d1, d2] => { results := [.lit (.bool false)], args := [d1, d2] }
  | _ => none }
def WholeSumsWrongFalsely : Prop := wholeSumsRow.holds Try.pinned (OpenSpec.ofChange wholeSumsWrong)

/-- 'dioptralaw01.WholeProducts': WHATEVER THE INPUT: true; the input reads as it did. -/
def wholeProductsSpec : ChangeSpec := { name := "wholeProducts", fn := fun _ => fun
  | [d1, d2] => { results := [.lit (.bool true)], args := [d1, d2] }
  | _ => none }
def wholeProductsRow : OpenClaim := { program := "ytjnedccjfnappaa", sum := "47145d78f68c760501b4e2946627696e0f6b616b2be2f97acef28927bbd47ab2", func := "dioptra/dioptralaw01.WholeProducts", spec := "wholeProducts", apart := false }
def WholeProductsSaid : Prop := wholeProductsRow.holds Try.pinned (OpenSpec.ofChange wholeProductsSpec)

/-- ITS FALSE NEIGHBOUR: 'it returns false'. Refute it at one input. -/
def wholeProductsWrong : ChangeSpec := { name := "wholeProducts", fn := fun _ => fun
  | [d1, d2] => { results := [.lit (.bool false)], args := [d1, d2] }
  | _ => none }
def WholeProductsWrongFalsely : Prop := wholeProductsRow.holds Try.pinned (OpenSpec.ofChange wholeProductsWrong)

/-- 'dioptralaw01.WholeLaws': WHATEVER THE INPUT: true; the input reads as it did. -/
def wholeLawsSpec : ChangeSpec := { name := "wholeLaws", fn := fun _ => fun
  | [d1, d2, d3] => { results := [.lit (.bool true)], args := [d1, d2, d3] }
  | _ => none }
def wholeLawsRow : OpenClaim := { program := "ytjnedccjfnappaa", sum := "47145d78f68c760501b4e2946627696e0f6b616b2be2f97acef28927bbd47ab2", func := "dioptra/dioptralaw01.WholeLaws", spec := "wholeLaws", apart := false }
def WholeLawsSaid : Prop := wholeLawsRow.holds Try.pinned (OpenSpec.ofChange wholeLawsSpec)

/-- ITS FALSE NEIGHBOUR: 'it returns false'. Refute it at one input. -/
def wholeLawsWrong : ChangeSpec := { name := "wholeLaws", fn := fun _ => fun
  | [d1, d2, d3] => { results := [.lit (.bool false)], args := [d1, d2, d3] }
  | _ => none }
def WholeLawsWrongFalsely : Prop := wholeLawsRow.holds Try.pinned (OpenSpec.ofChange wholeLawsWrong)

/-- 'dioptralaw01.WholeSmall': WHATEVER THE INPUT: true; the input reads as it did. -/
def wholeSmallSpec : ChangeSpec := { name := "wholeSmall", fn := fun _ => fun
  | [d1, d2, d3] => { results := [.lit (.bool true)], args := [d1, d2, d3] }
  | _ => none }
def wholeSmallRow : OpenClaim := { program := "ytjnedccjfnappaa", sum := "47145d78f68c760501b4e2946627696e0f6b616b2be2f97acef28927bbd47ab2", func := "dioptra/dioptralaw01.WholeSmall", spec := "wholeSmall", apart := false }
def WholeSmallSaid : Prop := wholeSmallRow.holds Try.pinned (OpenSpec.ofChange wholeSmallSpec)

/-- ITS FALSE NEIGHBOUR: 'it returns false'. Refute it at one input. -/
def wholeSmallWrong : ChangeSpec := { name := "wholeSmall", fn := fun _ => fun
  | [d1, d2, d3] => { results := [.lit (.bool false)], args := [d1, d2, d3] }
  | _ => none }
def WholeSmallWrongFalsely : Prop := wholeSmallRow.holds Try.pinned (OpenSpec.ofChange wholeSmallWrong)

/-- 'dioptralaw01.WholeOrders': WHATEVER THE INPUT: true; the input reads as it did. -/
def wholeOrdersSpec : ChangeSpec := { name := "wholeOrders", fn := fun _ => fun
  | [d1, d2] => { results := [.lit (.bool true)], args := [d1, d2] }
  | _ => none }
def wholeOrdersRow : OpenClaim := { program := "ytjnedccjfnappaa", sum := "47145d78f68c760501b4e2946627696e0f6b616b2be2f97acef28927bbd47ab2", func := "dioptra/dioptralaw01.WholeOrders", spec := "wholeOrders", apart := false }
def WholeOrdersSaid : Prop := wholeOrdersRow.holds Try.pinned (OpenSpec.ofChange wholeOrdersSpec)

/-- ITS FALSE NEIGHBOUR: 'it returns false'. Refute it at one input. -/
def wholeOrdersWrong : ChangeSpec := { name := "wholeOrders", fn := fun _ => fun
  | [d1, d2] => { results := [.lit (.bool false)], args := [d1, d2] }
  | _ => none }
def WholeOrdersWrongFalsely : Prop := wholeOrdersRow.holds Try.pinned (OpenSpec.ofChange wholeOrdersWrong)

/-- 'dioptralaw01.WholeShifts': WHATEVER THE INPUT: true; the input reads as it did. -/
def wholeShiftsSpec : ChangeSpec := { name := "wholeShifts", fn := fun _ => fun
  | [d1, d2] => { results := [.lit (.bool true)], args := [d1, d2] }
  | _ => none }
def wholeShiftsRow : OpenClaim := { program := "ytjnedccjfnappaa", sum := "47145d78f68c760501b4e2946627696e0f6b616b2be2f97acef28927bbd47ab2", func := "dioptra/dioptralaw01.WholeShifts", spec := "wholeShifts", apart := false }
def WholeShiftsSaid : Prop := wholeShiftsRow.holds Try.pinned (OpenSpec.ofChange wholeShiftsSpec)

/-- ITS FALSE NEIGHBOUR: 'it returns false'. Refute it at one input. -/
def wholeShiftsWrong : ChangeSpec := { name := "wholeShifts", fn := fun _ => fun
  | [d1, d2] => { results := [.lit (.bool false)], args := [d1, d2] }
  | _ => none }
def WholeShiftsWrongFalsely : Prop := wholeShiftsRow.holds Try.pinned (OpenSpec.ofChange wholeShiftsWrong)

/-- 'dioptralaw01.WholeBack': WHATEVER THE INPUT: true; the input reads as it did. -/
def wholeBackSpec : ChangeSpec := { name := "wholeBack", fn := fun _ => fun
  | [d1, d2, d3] => { results := [.lit (.bool true)], args := [d1, d2, d3] }
  | _ => none }
def wholeBackRow : OpenClaim := { program := "ytjnedccjfnappaa", sum := "47145d78f68c760501b4e2946627696e0f6b616b2be2f97acef28927bbd47ab2", func := "dioptra/dioptralaw01.WholeBack", spec := "wholeBack", apart := false }
def WholeBackSaid : Prop := wholeBackRow.holds Try.pinned (OpenSpec.ofChange wholeBackSpec)

/-- ITS FALSE NEIGHBOUR: 'it returns false'. Refute it at one input. -/
def wholeBackWrong : ChangeSpec := { name := "wholeBack", fn := fun _ => fun
  | [d1, d2, d3] => { results := [.lit (.bool false)], args := [d1, d2, d3] }
  | _ => none }
def WholeBackWrongFalsely : Prop := wholeBackRow.holds Try.pinned (OpenSpec.ofChange wholeBackWrong)

/- THE SECOND FORM. 'bulk': how many values and letters a reading holds, each counted each time it is reached (what is shared counts as often as it is met; a slice's spare places count too). A statement '..UptoSaid' is the law's where the arguments, and the package variables that the reading takes, are together of bulk at most 1048576: NARROWER than '..Said'. Prove '..Said' where nothing that the law and all that it calls make is longer than what came in: it says more and counts as full. Else prove '..UptoSaid'. A law counts once. -/
mutual
def uptoBulk {H : Type} : DataW H → Nat
  | .lit (.string bytes) => bytes.length + 1
  | .lit _ => 1
  | .nil => 1
  | .ptr d => uptoBulk d + 1
  | .slice elems spare => uptoBulkAll elems + uptoBulkAll spare + 1
  | .agg parts => uptoBulkAll parts + 1
  | .iface _ d => uptoBulk d + 1
  | .map entries => uptoBulkEntries entries + 1
  | .held _ => 1
def uptoBulkAll {H : Type} : List (DataW H) → Nat
  | [] => 0
  | d :: r => uptoBulk d + uptoBulkAll r
def uptoBulkEntries {H : Type} : List (Lit × DataW H) → Nat
  | [] => 0
  | x :: r => uptoBulkEntry x + uptoBulkEntries r
def uptoBulkEntry {H : Type} : Lit × DataW H → Nat
  | (.string bytes, d) => bytes.length + uptoBulk d + 1
  | (_, d) => uptoBulk d + 1
 end
def uptoSmall : (H : Type) → List (DataW H) → Bool := fun _ ds => decide (uptoBulkAll ds ≤ 1048576)
def OpenSpec.upto (s : _root_.Go.ChangeSpec) : _root_.Go.OpenSpec := { _root_.Go.OpenSpec.ofChange s with cond := some uptoSmall }

/-- 'dioptralaw01.WholeChecks', WHERE WHAT IT READS IS OF BULK AT MOST 1048576: true; the input reads as it did. -/
def wholeChecksUptoRow : OpenClaim := { program := "ytjnedccjfnappaa", sum := "47145d78f68c760501b4e2946627696e0f6b616b2be2f97acef28927bbd47ab2", func := "dioptra/dioptralaw01.WholeChecks", spec := "wholeChecks", apart := false, narrowed := true }
def WholeChecksUptoSaid : Prop := wholeChecksUptoRow.holds Try.pinned (OpenSpec.upto wholeChecksSpec)

/-- 'dioptralaw01.WholeSums', WHERE WHAT IT READS IS OF BULK AT MOST 1048576: true; the input reads as it did. -/
def wholeSumsUptoRow : OpenClaim := { program := "ytjnedccjfnappaa", sum := "47145d78f68c760501b4e2946627696e0f6b616b2be2f97acef28927bbd47ab2", func := "dioptra/dioptralaw01.WholeSums", spec := "wholeSums", apart := false, narrowed := true }
def WholeSumsUptoSaid : Prop := wholeSumsUptoRow.holds Try.pinned (OpenSpec.upto wholeSumsSpec)

/-- 'dioptralaw01.WholeProducts', WHERE WHAT IT READS IS OF BULK AT MOST 1048576: true; the input reads as it did. -/
def wholeProductsUptoRow : OpenClaim := { program := "ytjnedccjfnappaa", sum := "47145d78f68c760501b4e2946627696e0f6b616b2be2f97acef28927bbd47ab2", func := "dioptra/dioptralaw01.WholeProducts", spec := "wholeProducts", apart := false, narrowed := true }
def WholeProductsUptoSaid : Prop := wholeProductsUptoRow.holds Try.pinned (OpenSpec.upto wholeProductsSpec)

/-- 'dioptralaw01.WholeLaws', WHERE WHAT IT READS IS OF BULK AT MOST 1048576: true; the input reads as it did. -/
def wholeLawsUptoRow : OpenClaim := { program := "ytjnedccjfnappaa", sum := "47145d78f68c760501b4e2946627696e0f6b616b2be2f97acef28927bbd47ab2", func := "dioptra/dioptralaw01.WholeLaws", spec := "wholeLaws", apart := false, narrowed := true }
def WholeLawsUptoSaid : Prop := wholeLawsUptoRow.holds Try.pinned (OpenSpec.upto wholeLawsSpec)

/-- 'dioptralaw01.WholeSmall', WHERE WHAT IT READS IS OF BULK AT MOST 1048576: true; the input reads as it did. -/
def wholeSmallUptoRow : OpenClaim := { program := "ytjnedccjfnappaa", sum := "47145d78f68c760501b4e2946627696e0f6b616b2be2f97acef28927bbd47ab2", func := "dioptra/dioptralaw01.WholeSmall", spec := "wholeSmall", apart := false, narrowed := true }
def WholeSmallUptoSaid : Prop := wholeSmallUptoRow.holds Try.pinned (OpenSpec.upto wholeSmallSpec)

/-- 'dioptralaw01.WholeOrders', WHERE WHAT IT READS IS OF BULK AT MOST 1048576: true; the input reads as it did. -/
def wholeOrdersUptoRow : OpenClaim := { program := "ytjnedccjfnappaa", sum := "47145d78f68c760501b4e2946627696e0f6b616b2be2f97acef28927bbd47ab2", func := "dioptra/dioptralaw01.WholeOrders", spec := "wholeOrders", apart := false, narrowed := true }
def WholeOrdersUptoSaid : Prop := wholeOrdersUptoRow.holds Try.pinned (OpenSpec.upto wholeOrdersSpec)

/-- 'dioptralaw01.WholeShifts', WHERE WHAT IT READS IS OF BULK AT MOST 1048576: true; the input reads as it did. -/
def wholeShiftsUptoRow : OpenClaim := { program := "ytjnedccjfnappaa", sum := "47145d78f68c760501b4e2946627696e0f6b616b2be2f97acef28927bbd47ab2", func := "dioptra/dioptralaw01.WholeShifts", spec := "wholeShifts", apart := false, narrowed := true }
def WholeShiftsUptoSaid : Prop := wholeShiftsUptoRow.holds Try.pinned (OpenSpec.upto wholeShiftsSpec)

/-- 'dioptralaw01.WholeBack', WHERE WHAT IT READS IS OF BULK AT MOST 1048576: true; the input reads as it did. -/
def wholeBackUptoRow : OpenClaim := { program := "ytjnedccjfnappaa", sum := "47145d78f68c760501b4e2946627696e0f6b616b2be2f97acef28927bbd47ab2", func := "dioptra/dioptralaw01.WholeBack", spec := "wholeBack", apart := false, narrowed := true }
def WholeBackUptoSaid : Prop := wholeBackUptoRow.holds Try.pinned (OpenSpec.upto wholeBackSpec)

end Rows
end Go.Proofs.Ytjnedccjfnappaa
