/-
  NARROWER THAN 'FOR EVERY INPUT', by the rows' own cells (each row's printed sentence says how): SoftKinds: laid · SoftValues: laid · SoftRounds: laid · SoftBack: laid · SoftRises: laid · SoftNearest: laid · SoftUp: laid.
  DERIVED. THE GIVEN ROWS OF THIS SEAT. 7 by the template 'for every input the law returns true; each argument reads behind the call as it read before'; 0 by the template 'total and deterministic' (their statements: YtdaoblhmnafllaaDoorTotals.lean).
  GIVEN WITH THE SEED: the statements are not yours to turn. If you find one false, say at which input.
  Laid BY PROGRAM, IN A SANDBOX (cutbox-rows.mjs): the forced cells as the released guide's own fill.sh prints them over the translation e66b5d49318fbccc… (all of the seat's roots in one cut). By AI agents, Wed Nov 11 2026. No macro, syntax, notation, axiom, sorry.
-/
import Derived.Test.YtdaoblhmnafllaaDoorChecked
import GoSem.Claim
import GoSem.ClaimJoined
import GoSem.ClaimMapViews
import Derived.JoinedTies
import Derived.KernelRfl
namespace Go.Proofs.YtdaoblhmnafllaaDoor
/- THE CELL 'sum', in the pinned program and in every row, IS THE sha256 OF THE DUMP (.gsa) THAT YtdaoblhmnafllaaDoorProg.lean LOADS. Nothing in Lean hashes anything: it is a label: what it is worth is what the hold of that sum in a sandbox is worth. -/
noncomputable def Tryd.pinned : Pinned := { name := "ytdaoblhmnafllaadoor", sum := "e66b5d49318fbcccfe4b3fa76efe96b21bede5a34a3c27f9ad12dcacee6d0ce1", checked := Tryd.checked }
namespace Rows
def none {H : Type} : Left H := { results := [], args := [] }

/- WHAT THE LISTED PACKAGE-LEVEL VARIABLES READ AS WHEN THE CALL BEGINS. Each datum BY PROGRAM (the guide's laid-datum.mjs) off the statement by which the dump's own 'gosem.cut.vars' lays the variable. In a bare row this is a premise. The card (YtdaoblhmnafllaaDoorCards.lean) ties it to the program's text. -/
def laid_math_bits_deBruijn32tab {H : Type} : DataW H := .agg [.lit (.int .u8 0), .lit (.int .u8 1), .lit (.int .u8 28), .lit (.int .u8 2), .lit (.int .u8 29), .lit (.int .u8 14), .lit (.int .u8 24), .lit (.int .u8 3), .lit (.int .u8 30), .lit (.int .u8 22), .lit (.int .u8 20), .lit (.int .u8 15), .lit (.int .u8 25), .lit (.int .u8 17), .lit (.int .u8 4), .lit (.int .u8 8), .lit (.int .u8 31), .lit (.int .u8 27), .lit (.int .u8 13), .lit (.int .u8 23), .lit (.int .u8 21), .lit (.int .u8 19), .lit (.int .u8 16), .lit (.int .u8 7), .lit (.int .u8 26), .lit (.int .u8 12), .lit (.int .u8 18), .lit (.int .u8 6), .lit (.int .u8 11), .lit (.int .u8 5), .lit (.int .u8 10), .lit (.int .u8 9)]

/-- 'dioptralaw04.SoftKinds': WHATEVER THE INPUT: true; the input reads as it did. -/
def softKindsSpec : ChangeSpec := { name := "softKinds", fn := fun _ => fun
  | [d] => { results := [.lit (.bool true)], args := [d] }
  | _ => none }
def softKindsRow : OpenClaim := { program := "ytdaoblhmnafllaadoor", sum := "e66b5d49318fbcccfe4b3fa76efe96b21bede5a34a3c27f9ad12dcacee6d0ce1", func := "dioptra/dioptralaw04.SoftKinds", spec := "softKinds", recurses := true, named := ["math/bits.deBruijn32tab"], apart := false, laid := [("math/bits.deBruijn32tab", laid_math_bits_deBruijn32tab)] }
def SoftKindsSaid : Prop := softKindsRow.holds Tryd.pinned (OpenSpec.ofChange softKindsSpec)

/-- ITS FALSE NEIGHBOUR: 'it returns false'. Refute it at one input. -/
def softKindsWrong : ChangeSpec := { name := "softKinds", fn := fun _ => fun
  | [d] => { results := [.lit (.bool false)], args := [d] }
  | _ => none }
def SoftKindsWrongFalsely : Prop := softKindsRow.holds Tryd.pinned (OpenSpec.ofChange softKindsWrong)

/-- 'dioptralaw04.SoftValues': WHATEVER THE INPUT: true; the input reads as it did. -/
def softValuesSpec : ChangeSpec := { name := "softValues", fn := fun _ => fun
  | [d] => { results := [.lit (.bool true)], args := [d] }
  | _ => none }
def softValuesRow : OpenClaim := { program := "ytdaoblhmnafllaadoor", sum := "e66b5d49318fbcccfe4b3fa76efe96b21bede5a34a3c27f9ad12dcacee6d0ce1", func := "dioptra/dioptralaw04.SoftValues", spec := "softValues", recurses := true, named := ["math/bits.deBruijn32tab"], apart := false, laid := [("math/bits.deBruijn32tab", laid_math_bits_deBruijn32tab)] }
def SoftValuesSaid : Prop := softValuesRow.holds Tryd.pinned (OpenSpec.ofChange softValuesSpec)

/-- ITS FALSE NEIGHBOUR: 'it returns false'. Refute it at one input. -/
def softValuesWrong : ChangeSpec := { name := "softValues", fn := fun _ => fun
  | [d] => { results := [.lit (.bool false)], args := [d] }
  | _ => none }
def SoftValuesWrongFalsely : Prop := softValuesRow.holds Tryd.pinned (OpenSpec.ofChange softValuesWrong)

/-- 'dioptralaw04.SoftRounds': WHATEVER THE INPUT: true; the input reads as it did. -/
def softRoundsSpec : ChangeSpec := { name := "softRounds", fn := fun _ => fun
  | [d] => { results := [.lit (.bool true)], args := [d] }
  | _ => none }
def softRoundsRow : OpenClaim := { program := "ytdaoblhmnafllaadoor", sum := "e66b5d49318fbcccfe4b3fa76efe96b21bede5a34a3c27f9ad12dcacee6d0ce1", func := "dioptra/dioptralaw04.SoftRounds", spec := "softRounds", recurses := true, named := ["math/bits.deBruijn32tab"], apart := false, laid := [("math/bits.deBruijn32tab", laid_math_bits_deBruijn32tab)] }
def SoftRoundsSaid : Prop := softRoundsRow.holds Tryd.pinned (OpenSpec.ofChange softRoundsSpec)

/-- ITS FALSE NEIGHBOUR: 'it returns false'. Refute it at one input. -/
def softRoundsWrong : ChangeSpec := { name := "softRounds", fn := fun _ => fun
  | [d] => { results := [.lit (.bool false)], args := [d] }
  | _ => none }
def SoftRoundsWrongFalsely : Prop := softRoundsRow.holds Tryd.pinned (OpenSpec.ofChange softRoundsWrong)

/-- 'dioptralaw04.SoftBack': WHATEVER THE INPUT: true; the input reads as it did. -/
def softBackSpec : ChangeSpec := { name := "softBack", fn := fun _ => fun
  | [d] => { results := [.lit (.bool true)], args := [d] }
  | _ => none }
def softBackRow : OpenClaim := { program := "ytdaoblhmnafllaadoor", sum := "e66b5d49318fbcccfe4b3fa76efe96b21bede5a34a3c27f9ad12dcacee6d0ce1", func := "dioptra/dioptralaw04.SoftBack", spec := "softBack", recurses := true, named := ["math/bits.deBruijn32tab"], apart := false, laid := [("math/bits.deBruijn32tab", laid_math_bits_deBruijn32tab)] }
def SoftBackSaid : Prop := softBackRow.holds Tryd.pinned (OpenSpec.ofChange softBackSpec)

/-- ITS FALSE NEIGHBOUR: 'it returns false'. Refute it at one input. -/
def softBackWrong : ChangeSpec := { name := "softBack", fn := fun _ => fun
  | [d] => { results := [.lit (.bool false)], args := [d] }
  | _ => none }
def SoftBackWrongFalsely : Prop := softBackRow.holds Tryd.pinned (OpenSpec.ofChange softBackWrong)

/-- 'dioptralaw04.SoftRises': WHATEVER THE INPUT: true; the input reads as it did. -/
def softRisesSpec : ChangeSpec := { name := "softRises", fn := fun _ => fun
  | [d1, d2] => { results := [.lit (.bool true)], args := [d1, d2] }
  | _ => none }
def softRisesRow : OpenClaim := { program := "ytdaoblhmnafllaadoor", sum := "e66b5d49318fbcccfe4b3fa76efe96b21bede5a34a3c27f9ad12dcacee6d0ce1", func := "dioptra/dioptralaw04.SoftRises", spec := "softRises", inPlace := ["math.Float64frombits"], recurses := true, named := ["math/bits.deBruijn32tab"], apart := false, laid := [("math/bits.deBruijn32tab", laid_math_bits_deBruijn32tab)] }
def SoftRisesSaid : Prop := softRisesRow.holds Tryd.pinned (OpenSpec.ofChange softRisesSpec)

/-- ITS FALSE NEIGHBOUR: 'it returns false'. Refute it at one input. -/
def softRisesWrong : ChangeSpec := { name := "softRises", fn := fun _ => fun
  | [d1, d2] => { results := [.lit (.bool false)], args := [d1, d2] }
  | _ => none }
def SoftRisesWrongFalsely : Prop := softRisesRow.holds Tryd.pinned (OpenSpec.ofChange softRisesWrong)

/-- 'dioptralaw04.SoftNearest': WHATEVER THE INPUT: true; the input reads as it did. -/
def softNearestSpec : ChangeSpec := { name := "softNearest", fn := fun _ => fun
  | [d] => { results := [.lit (.bool true)], args := [d] }
  | _ => none }
def softNearestRow : OpenClaim := { program := "ytdaoblhmnafllaadoor", sum := "e66b5d49318fbcccfe4b3fa76efe96b21bede5a34a3c27f9ad12dcacee6d0ce1", func := "dioptra/dioptralaw04.SoftNearest", spec := "softNearest", recurses := true, named := ["math/bits.deBruijn32tab"], apart := false, laid := [("math/bits.deBruijn32tab", laid_math_bits_deBruijn32tab)] }
def SoftNearestSaid : Prop := softNearestRow.holds Tryd.pinned (OpenSpec.ofChange softNearestSpec)

/-- ITS FALSE NEIGHBOUR: 'it returns false'. Refute it at one input. -/
def softNearestWrong : ChangeSpec := { name := "softNearest", fn := fun _ => fun
  | [d] => { results := [.lit (.bool false)], args := [d] }
  | _ => none }
def SoftNearestWrongFalsely : Prop := softNearestRow.holds Tryd.pinned (OpenSpec.ofChange softNearestWrong)

/-- 'dioptralaw04.SoftUp': WHATEVER THE INPUT: true; the input reads as it did. -/
def softUpSpec : ChangeSpec := { name := "softUp", fn := fun _ => fun
  | [d] => { results := [.lit (.bool true)], args := [d] }
  | _ => none }
def softUpRow : OpenClaim := { program := "ytdaoblhmnafllaadoor", sum := "e66b5d49318fbcccfe4b3fa76efe96b21bede5a34a3c27f9ad12dcacee6d0ce1", func := "dioptra/dioptralaw04.SoftUp", spec := "softUp", inPlace := ["math.Float64frombits", "math.Float64bits"], recurses := true, named := ["math/bits.deBruijn32tab"], apart := false, laid := [("math/bits.deBruijn32tab", laid_math_bits_deBruijn32tab)] }
def SoftUpSaid : Prop := softUpRow.holds Tryd.pinned (OpenSpec.ofChange softUpSpec)

/-- ITS FALSE NEIGHBOUR: 'it returns false'. Refute it at one input. -/
def softUpWrong : ChangeSpec := { name := "softUp", fn := fun _ => fun
  | [d] => { results := [.lit (.bool false)], args := [d] }
  | _ => none }
def SoftUpWrongFalsely : Prop := softUpRow.holds Tryd.pinned (OpenSpec.ofChange softUpWrong)

/- THE SECOND FORM. 'bulk': how many values and letters a reading holds, each counted each time it is reached (what is shared counts as often as it is met; a slice's spare places count too). A statement '..UptoSaid' is the law's where the arguments, and the package variables that the reading takes, are together of bulk at most 1048576: NARROWER than '..Said'. Prove '..Said' where nothing that the law and all that it calls make is longer than what came in: it says more and counts as full. Else prove '..UptoSaid'. A law counts once. -/
mutual
def uptoBulk {H : Type} : DataW H → Nat
  | .lit (.string bytes) => bytes.length + 1
  | .lit _ => 1
  | .nil => 1
  | .ptr d => uptoBulk d + 1
  | .slice elems spare => uptoBulkAll elems + uptoBulkAll spare + 1
  | .agg parts => uptoBulkAll parts + 1
  | .iface _ d => uptoBulk d + 1
  | .map entries => uptoBulkEntries entries + 1
  | .held _ => 1
def uptoBulkAll {H : Type} : List (DataW H) → Nat
  | [] => 0
  | d :: r => uptoBulk d + uptoBulkAll r
def uptoBulkEntries {H : Type} : List (Lit × DataW H) → Nat
  | [] => 0
  | x :: r => uptoBulkEntry x + uptoBulkEntries r
def uptoBulkEntry {H : Type} : Lit × DataW H → Nat
  | (.string bytes, d) => bytes.length + uptoBulk d + 1
  | (_, d) => uptoBulk d + 1
 end
def uptoSmall : (H : Type) → List (DataW H) → Bool := fun _ ds => decide (uptoBulkAll ds ≤ 1048576)
def OpenSpec.upto (s : _root_.Go.ChangeSpec) : _root_.Go.OpenSpec := { _root_.Go.OpenSpec.ofChange s with cond := some uptoSmall }

/-- 'dioptralaw04.SoftKinds', WHERE WHAT IT READS IS OF BULK AT MOST 1048576: true; the input reads as it did. -/
def softKindsUptoRow : OpenClaim := { program := "ytdaoblhmnafllaadoor", sum := "e66b5d49318fbcccfe4b3fa76efe96b21bede5a34a3c27f9ad12dcacee6d0ce1", func := "dioptra/dioptralaw04.SoftKinds", spec := "softKinds", recurses := true, named := ["math/bits.deBruijn32tab"], apart := false, laid := [("math/bits.deBruijn32tab", laid_math_bits_deBruijn32tab)], narrowed := true }
def SoftKindsUptoSaid : Prop := softKindsUptoRow.holds Tryd.pinned (OpenSpec.upto softKindsSpec)

/-- 'dioptralaw04.SoftValues', WHERE WHAT IT READS IS OF BULK AT MOST 1048576: true; the input reads as it did. -/
def softValuesUptoRow : OpenClaim := { program := "ytdaoblhmnafllaadoor", sum := "e66b5d49318fbcccfe4b3fa76efe96b21bede5a34a3c27f9ad12dcacee6d0ce1", func := "dioptra/dioptralaw04.SoftValues", spec := "softValues", recurses := true, named := ["math/bits.deBruijn32tab"], apart := false, laid := [("math/bits.deBruijn32tab", laid_math_bits_deBruijn32tab)], narrowed := true }
def SoftValuesUptoSaid : Prop := softValuesUptoRow.holds Tryd.pinned (OpenSpec.upto softValuesSpec)

/-- 'dioptralaw04.SoftRounds', WHERE WHAT IT READS IS OF BULK AT MOST 1048576: true; the input reads as it did. -/
def softRoundsUptoRow : OpenClaim := { program := "ytdaoblhmnafllaadoor", sum := "e66b5d49318fbcccfe4b3fa76efe96b21bede5a34a3c27f9ad12dcacee6d0ce1", func := "dioptra/dioptralaw04.SoftRounds", spec := "softRounds", recurses := true, named := ["math/bits.deBruijn32tab"], apart := false, laid := [("math/bits.deBruijn32tab", laid_math_bits_deBruijn32tab)], narrowed := true }
def SoftRoundsUptoSaid : Prop := softRoundsUptoRow.holds Tryd.pinned (OpenSpec.upto softRoundsSpec)

/-- 'dioptralaw04.SoftBack', WHERE WHAT IT READS IS OF BULK AT MOST 1048576: true; the input reads as it did. -/
def softBackUptoRow : OpenClaim := { program := "ytdaoblhmnafllaadoor", sum := "e66b5d49318fbcccfe4b3fa76efe96b21bede5a34a3c27f9ad12dcacee6d0ce1", func := "dioptra/dioptralaw04.SoftBack", spec := "softBack", recurses := true, named := ["math/bits.deBruijn32tab"], apart := false, laid := [("math/bits.deBruijn32tab", laid_math_bits_deBruijn32tab)], narrowed := true }
def SoftBackUptoSaid : Prop := softBackUptoRow.holds Tryd.pinned (OpenSpec.upto softBackSpec)

/-- 'dioptralaw04.SoftRises', WHERE WHAT IT READS IS OF BULK AT MOST 1048576: true; the input reads as it did. -/
def softRisesUptoRow : OpenClaim := { program := "ytdaoblhmnafllaadoor", sum := "e66b5d49318fbcccfe4b3fa76efe96b21bede5a34a3c27f9ad12dcacee6d0ce1", func := "dioptra/dioptralaw04.SoftRises", spec := "softRises", inPlace := ["math.Float64frombits"], recurses := true, named := ["math/bits.deBruijn32tab"], apart := false, laid := [("math/bits.deBruijn32tab", laid_math_bits_deBruijn32tab)], narrowed := true }
def SoftRisesUptoSaid : Prop := softRisesUptoRow.holds Tryd.pinned (OpenSpec.upto softRisesSpec)

/-- 'dioptralaw04.SoftNearest', WHERE WHAT IT READS IS OF BULK AT MOST 1048576: true; the input reads as it did. -/
def softNearestUptoRow : OpenClaim := { program := "ytdaoblhmnafllaadoor", sum := "e66b5d49318fbcccfe4b3fa76efe96b21bede5a34a3c27f9ad12dcacee6d0ce1", func := "dioptra/dioptralaw04.SoftNearest", spec := "softNearest", recurses := true, named := ["math/bits.deBruijn32tab"], apart := false, laid := [("math/bits.deBruijn32tab", laid_math_bits_deBruijn32tab)], narrowed := true }
def SoftNearestUptoSaid : Prop := softNearestUptoRow.holds Tryd.pinned (OpenSpec.upto softNearestSpec)

/-- 'dioptralaw04.SoftUp', WHERE WHAT IT READS IS OF BULK AT MOST 1048576: true; the input reads as it did. -/
def softUpUptoRow : OpenClaim := { program := "ytdaoblhmnafllaadoor", sum := "e66b5d49318fbcccfe4b3fa76efe96b21bede5a34a3c27f9ad12dcacee6d0ce1", func := "dioptra/dioptralaw04.SoftUp", spec := "softUp", inPlace := ["math.Float64frombits", "math.Float64bits"], recurses := true, named := ["math/bits.deBruijn32tab"], apart := false, laid := [("math/bits.deBruijn32tab", laid_math_bits_deBruijn32tab)], narrowed := true }
def SoftUpUptoSaid : Prop := softUpUptoRow.holds Tryd.pinned (OpenSpec.upto softUpSpec)

end Rows
end Go.Proofs.YtdaoblhmnafllaaDoor
