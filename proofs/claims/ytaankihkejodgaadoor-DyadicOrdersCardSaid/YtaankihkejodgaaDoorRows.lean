/-
  NARROWER THAN 'FOR EVERY INPUT', by the rows' own cells (each row's printed sentence says how): DyadicMakes: laid · DyadicChecks: laid · DyadicProducts: laid · DyadicSums: laid · DyadicLaws: laid · DyadicOrders: laid.
  DERIVED. THE GIVEN ROWS OF THIS SEAT. 6 by the template 'for every input the law returns true; each argument reads behind the call as it read before'; 0 by the template 'total and deterministic' (their statements: YtaankihkejodgaaDoorTotals.lean).
  GIVEN WITH THE SEED: the statements are not yours to turn. If you find one false, say at which input.
  Laid BY PROGRAM, IN A SANDBOX (cutbox-rows.mjs): the forced cells as the released guide's own fill.sh prints them over the translation 79332dc43699a44b… (all of the seat's roots in one cut). By AI agents, Wed Nov 11 2026. No macro, syntax, notation, axiom, sorry.
-/
import Derived.Test.YtaankihkejodgaaDoorChecked
import GoSem.Claim
import GoSem.ClaimJoined
import GoSem.ClaimMapViews
import Derived.JoinedTies
import Derived.KernelRfl
namespace Go.Proofs.YtaankihkejodgaaDoor
/- THE CELL 'sum', in the pinned program and in every row, IS THE sha256 OF THE DUMP (.gsa) THAT YtaankihkejodgaaDoorProg.lean LOADS. Nothing in Lean hashes anything: it is a label: what it is worth is what the hold of that sum in a sandbox is worth. -/
noncomputable def Tryd.pinned : Pinned := { name := "ytaankihkejodgaadoor", sum := "79332dc43699a44b3a2bc4f52c1b5a14b0fe27835fb58a1cdf052807655682e3", checked := Tryd.checked }
namespace Rows
def none {H : Type} : Left H := { results := [], args := [] }

/- WHAT THE LISTED PACKAGE-LEVEL VARIABLES READ AS WHEN THE CALL BEGINS. Each datum BY PROGRAM (the guide's laid-datum.mjs) off the statement by which the dump's own 'gosem.cut.vars' lays the variable. In a bare row this is a premise. The card (YtaankihkejodgaaDoorCards.lean) ties it to the program's text. -/
def laid_math_bits_deBruijn32tab {H : Type} : DataW H := .agg [.lit (.int .u8 0), .lit (.int .u8 1), .lit (.int .u8 28), .lit (.int .u8 2), .lit (.int .u8 29), .lit (.int .u8 14), .lit (.int .u8 24), .lit (.int .u8 3), .lit (.int .u8 30), .lit (.int .u8 22), .lit (.int .u8 20), .lit (.int .u8 15), .lit (.int .u8 25), .lit (.int .u8 17), .lit (.int .u8 4), .lit (.int .u8 8), .lit (.int .u8 31), .lit (.int .u8 27), .lit (.int .u8 13), .lit (.int .u8 23), .lit (.int .u8 21), .lit (.int .u8 19), .lit (.int .u8 16), .lit (.int .u8 7), .lit (.int .u8 26), .lit (.int .u8 12), .lit (.int .u8 18), .lit (.int .u8 6), .lit (.int .u8 11), .lit (.int .u8 5), .lit (.int .u8 10), .lit (.int .u8 9)]

/-- 'dioptralaw02.DyadicMakes': WHATEVER THE INPUT: true; the input reads as it did. -/
def dyadicMakesSpec : ChangeSpec := { name := "dyadicMakes", fn := fun _ => fun
  | [d1, d2] => { results := [.lit (.bool true)], args := [d1, d2] }
  | _ => none }
def dyadicMakesRow : OpenClaim := { program := "ytaankihkejodgaadoor", sum := "79332dc43699a44b3a2bc4f52c1b5a14b0fe27835fb58a1cdf052807655682e3", func := "dioptra/dioptralaw02.DyadicMakes", spec := "dyadicMakes", named := ["math/bits.deBruijn32tab"], apart := false, laid := [("math/bits.deBruijn32tab", laid_math_bits_deBruijn32tab)] }
def DyadicMakesSaid : Prop := dyadicMakesRow.holds Tryd.pinned (OpenSpec.ofChange dyadicMakesSpec)

/-- ITS FALSE NEIGHBOUR: 'it returns false'. Refute it at one input. -/
def dyadicMakesWrong : ChangeSpec := { name := "dyadicMakes", fn := fun _ => fun
  | [d1, d2] => { results := [.lit (.bool false)], args := [d1, d2] }
  | _ => none }
def DyadicMakesWrongFalsely : Prop := dyadicMakesRow.holds Tryd.pinned (OpenSpec.ofChange dyadicMakesWrong)

/-- 'dioptralaw02.DyadicChecks': WHATEVER THE INPUT: true; the input reads as it did. -/
def dyadicChecksSpec : ChangeSpec := { name := "dyadicChecks", fn := fun _ => fun
  | [d] => { results := [.lit (.bool true)], args := [d] }
  | _ => none }
def dyadicChecksRow : OpenClaim := { program := "ytaankihkejodgaadoor", sum := "79332dc43699a44b3a2bc4f52c1b5a14b0fe27835fb58a1cdf052807655682e3", func := "dioptra/dioptralaw02.DyadicChecks", spec := "dyadicChecks", named := ["math/bits.deBruijn32tab"], apart := false, laid := [("math/bits.deBruijn32tab", laid_math_bits_deBruijn32tab)] }
def DyadicChecksSaid : Prop := dyadicChecksRow.holds Tryd.pinned (OpenSpec.ofChange dyadicChecksSpec)

/-- ITS FALSE NEIGHBOUR: 'it returns false'. Refute it at one input. -/
def dyadicChecksWrong : ChangeSpec := { name := "dyadicChecks", fn := fun _ => fun
  | [d] => { results := [.lit (.bool false)], args := [d] }
  | _ => none }
def DyadicChecksWrongFalsely : Prop := dyadicChecksRow.holds Tryd.pinned (OpenSpec.ofChange dyadicChecksWrong)

/-- 'dioptralaw02.DyadicProducts': WHATEVER THE INPUT: true; the input reads as it did. -/
def dyadicProductsSpec : ChangeSpec := { name := "dyadicProducts", fn := fun _ => fun
  | [d1, d2, d3] => { results := [.lit (.bool true)], args := [d1, d2, d3] }
  | _ => none }
def dyadicProductsRow : OpenClaim := { program := "ytaankihkejodgaadoor", sum := "79332dc43699a44b3a2bc4f52c1b5a14b0fe27835fb58a1cdf052807655682e3", func := "dioptra/dioptralaw02.DyadicProducts", spec := "dyadicProducts", named := ["math/bits.deBruijn32tab"], apart := false, laid := [("math/bits.deBruijn32tab", laid_math_bits_deBruijn32tab)] }
def DyadicProductsSaid : Prop := dyadicProductsRow.holds Tryd.pinned (OpenSpec.ofChange dyadicProductsSpec)

/-- ITS FALSE NEIGHBOUR: 'it returns false'. Refute it at one input. -/
def dyadicProductsWrong : ChangeSpec := { name := "dyadicProducts", fn := fun _ => fun
  | [d1, d2, d3] => { results := [.lit (.bool false)], args := [d1, d2, d3] }
  | _ => none }
def DyadicProductsWrongFalsely : Prop := dyadicProductsRow.holds Tryd.pinned (OpenSpec.ofChange dyadicProductsWrong)

/-- 'dioptralaw02.DyadicSums': WHATEVER THE INPUT: true; the input reads as it did. -/
def dyadicSumsSpec : ChangeSpec := { name := "dyadicSums", fn := fun _ => fun
  | [d1, d2] => { results := [.lit (.bool true)], args := [d1, d2] }
  | _ => none }
def dyadicSumsRow : OpenClaim := { program := "ytaankihkejodgaadoor", sum := "79332dc43699a44b3a2bc4f52c1b5a14b0fe27835fb58a1cdf052807655682e3", func := "dioptra/dioptralaw02.DyadicSums", spec := "dyadicSums", recurses := true, named := ["math/bits.deBruijn32tab"], apart := false, laid := [("math/bits.deBruijn32tab", laid_math_bits_deBruijn32tab)] }
def DyadicSumsSaid : Prop := dyadicSumsRow.holds Tryd.pinned (OpenSpec.ofChange dyadicSumsSpec)

/-- ITS FALSE NEIGHBOUR: 'it returns false'. Refute it at one input. -/
def dyadicSumsWrong : ChangeSpec := { name := "dyadicSums", fn := fun _ => fun
  | [d1, d2] => { results := [.lit (.bool false)], args := [d1, d2] }
  | _ => none }
def DyadicSumsWrongFalsely : Prop := dyadicSumsRow.holds Tryd.pinned (OpenSpec.ofChange dyadicSumsWrong)

/-- 'dioptralaw02.DyadicLaws': WHATEVER THE INPUT: true; the input reads as it did. -/
def dyadicLawsSpec : ChangeSpec := { name := "dyadicLaws", fn := fun _ => fun
  | [d1, d2, d3] => { results := [.lit (.bool true)], args := [d1, d2, d3] }
  | _ => none }
def dyadicLawsRow : OpenClaim := { program := "ytaankihkejodgaadoor", sum := "79332dc43699a44b3a2bc4f52c1b5a14b0fe27835fb58a1cdf052807655682e3", func := "dioptra/dioptralaw02.DyadicLaws", spec := "dyadicLaws", recurses := true, named := ["math/bits.deBruijn32tab"], apart := false, laid := [("math/bits.deBruijn32tab", laid_math_bits_deBruijn32tab)] }
def DyadicLawsSaid : Prop := dyadicLawsRow.holds Tryd.pinned (OpenSpec.ofChange dyadicLawsSpec)

/-- ITS FALSE NEIGHBOUR: 'it returns false'. Refute it at one input. -/
def dyadicLawsWrong : ChangeSpec := { name := "dyadicLaws", fn := fun _ => fun
  | [d1, d2, d3] => { results := [.lit (.bool false)], args := [d1, d2, d3] }
  | _ => none }
def DyadicLawsWrongFalsely : Prop := dyadicLawsRow.holds Tryd.pinned (OpenSpec.ofChange dyadicLawsWrong)

/-- 'dioptralaw02.DyadicOrders': WHATEVER THE INPUT: true; the input reads as it did. -/
def dyadicOrdersSpec : ChangeSpec := { name := "dyadicOrders", fn := fun _ => fun
  | [d1, d2] => { results := [.lit (.bool true)], args := [d1, d2] }
  | _ => none }
def dyadicOrdersRow : OpenClaim := { program := "ytaankihkejodgaadoor", sum := "79332dc43699a44b3a2bc4f52c1b5a14b0fe27835fb58a1cdf052807655682e3", func := "dioptra/dioptralaw02.DyadicOrders", spec := "dyadicOrders", recurses := true, named := ["math/bits.deBruijn32tab"], apart := false, laid := [("math/bits.deBruijn32tab", laid_math_bits_deBruijn32tab)] }
def DyadicOrdersSaid : Prop := dyadicOrdersRow.holds Tryd.pinned (OpenSpec.ofChange dyadicOrdersSpec)

/-- ITS FALSE NEIGHBOUR: 'it returns false'. Refute it at one input. -/
def dyadicOrdersWrong : ChangeSpec := { name := "dyadicOrders", fn := fun _ => fun
  | [d1, d2] => { results := [.lit (.bool false)], args := [d1, d2] }
  | _ => none }
def DyadicOrdersWrongFalsely : Prop := dyadicOrdersRow.holds Tryd.pinned (OpenSpec.ofChange dyadicOrdersWrong)

/- THE SECOND FORM. 'bulk': how many values and letters a reading holds, each counted each time it is reached (what is shared counts as often as it is met; a slice's spare places count too). A statement '..UptoSaid' is the law's where the arguments, and the package variables that the reading takes, are together of bulk at most 1048576: NARROWER than '..Said'. Prove '..Said' where nothing that the law and all that it calls make is longer than what came in: it says more and counts as full. Else prove '..UptoSaid'. A law counts once. -/
mutual
def uptoBulk {H : Type} : DataW H → Nat
  | .lit (.string bytes) => bytes.length + 1
  | .lit _ => 1
  | .nil => 1
  | .ptr d => uptoBulk d + 1
  | .slice elems spare => uptoBulkAll elems + uptoBulkAll spare + 1
  | .agg parts => uptoBulkAll parts + 1
  | .iface _ d => uptoBulk d + 1
  | .map entries => uptoBulkEntries entries + 1
  | .held _ => 1
def uptoBulkAll {H : Type} : List (DataW H) → Nat
  | [] => 0
  | d :: r => uptoBulk d + uptoBulkAll r
def uptoBulkEntries {H : Type} : List (Lit × DataW H) → Nat
  | [] => 0
  | x :: r => uptoBulkEntry x + uptoBulkEntries r
def uptoBulkEntry {H : Type} : Lit × DataW H → Nat
  | (.string bytes, d) => bytes.length + uptoBulk d + 1
  | (_, d) => uptoBulk d + 1
 end
def uptoSmall : (H : Type) → List (DataW H) → Bool := fun _ ds => decide (uptoBulkAll ds ≤ 1048576)
def OpenSpec.upto (s : _root_.Go.ChangeSpec) : _root_.Go.OpenSpec := { _root_.Go.OpenSpec.ofChange s with cond := some uptoSmall }

/-- 'dioptralaw02.DyadicMakes', WHERE WHAT IT READS IS OF BULK AT MOST 1048576: true; the input reads as it did. -/
def dyadicMakesUptoRow : OpenClaim := { program := "ytaankihkejodgaadoor", sum := "79332dc43699a44b3a2bc4f52c1b5a14b0fe27835fb58a1cdf052807655682e3", func := "dioptra/dioptralaw02.DyadicMakes", spec := "dyadicMakes", named := ["math/bits.deBruijn32tab"], apart := false, laid := [("math/bits.deBruijn32tab", laid_math_bits_deBruijn32tab)], narrowed := true }
def DyadicMakesUptoSaid : Prop := dyadicMakesUptoRow.holds Tryd.pinned (OpenSpec.upto dyadicMakesSpec)

/-- 'dioptralaw02.DyadicChecks', WHERE WHAT IT READS IS OF BULK AT MOST 1048576: true; the input reads as it did. -/
def dyadicChecksUptoRow : OpenClaim := { program := "ytaankihkejodgaadoor", sum := "79332dc43699a44b3a2bc4f52c1b5a14b0fe27835fb58a1cdf052807655682e3", func := "dioptra/dioptralaw02.DyadicChecks", spec := "dyadicChecks", named := ["math/bits.deBruijn32tab"], apart := false, laid := [("math/bits.deBruijn32tab", laid_math_bits_deBruijn32tab)], narrowed := true }
def DyadicChecksUptoSaid : Prop := dyadicChecksUptoRow.holds Tryd.pinned (OpenSpec.upto dyadicChecksSpec)

/-- 'dioptralaw02.DyadicProducts', WHERE WHAT IT READS IS OF BULK AT MOST 1048576: true; the input reads as it did. -/
def dyadicProductsUptoRow : OpenClaim := { program := "ytaankihkejodgaadoor", sum := "79332dc43699a44b3a2bc4f52c1b5a14b0fe27835fb58a1cdf052807655682e3", func := "dioptra/dioptralaw02.DyadicProducts", spec := "dyadicProducts", named := ["math/bits.deBruijn32tab"], apart := false, laid := [("math/bits.deBruijn32tab", laid_math_bits_deBruijn32tab)], narrowed := true }
def DyadicProductsUptoSaid : Prop := dyadicProductsUptoRow.holds Tryd.pinned (OpenSpec.upto dyadicProductsSpec)

/-- 'dioptralaw02.DyadicSums', WHERE WHAT IT READS IS OF BULK AT MOST 1048576: true; the input reads as it did. -/
def dyadicSumsUptoRow : OpenClaim := { program := "ytaankihkejodgaadoor", sum := "79332dc43699a44b3a2bc4f52c1b5a14b0fe27835fb58a1cdf052807655682e3", func := "dioptra/dioptralaw02.DyadicSums", spec := "dyadicSums", recurses := true, named := ["math/bits.deBruijn32tab"], apart := false, laid := [("math/bits.deBruijn32tab", laid_math_bits_deBruijn32tab)], narrowed := true }
def DyadicSumsUptoSaid : Prop := dyadicSumsUptoRow.holds Tryd.pinned (OpenSpec.upto dyadicSumsSpec)

/-- 'dioptralaw02.DyadicLaws', WHERE WHAT IT READS IS OF BULK AT MOST 1048576: true; the input reads as it did. -/
def dyadicLawsUptoRow : OpenClaim := { program := "ytaankihkejodgaadoor", sum := "79332dc43699a44b3a2bc4f52c1b5a14b0fe27835fb58a1cdf052807655682e3", func := "dioptra/dioptralaw02.DyadicLaws", spec := "dyadicLaws", recurses := true, named := ["math/bits.deBruijn32tab"], apart := false, laid := [("math/bits.deBruijn32tab", laid_math_bits_deBruijn32tab)], narrowed := true }
def DyadicLawsUptoSaid : Prop := dyadicLawsUptoRow.holds Tryd.pinned (OpenSpec.upto dyadicLawsSpec)

/-- 'dioptralaw02.DyadicOrders', WHERE WHAT IT READS IS OF BULK AT MOST 1048576: true; the input reads as it did. -/
def dyadicOrdersUptoRow : OpenClaim := { program := "ytaankihkejodgaadoor", sum := "79332dc43699a44b3a2bc4f52c1b5a14b0fe27835fb58a1cdf052807655682e3", func := "dioptra/dioptralaw02.DyadicOrders", spec := "dyadicOrders", recurses := true, named := ["math/bits.deBruijn32tab"], apart := false, laid := [("math/bits.deBruijn32tab", laid_math_bits_deBruijn32tab)], narrowed := true }
def DyadicOrdersUptoSaid : Prop := dyadicOrdersUptoRow.holds Tryd.pinned (OpenSpec.upto dyadicOrdersSpec)

end Rows
end Go.Proofs.YtaankihkejodgaaDoor
