/-
  DERIVED. GIVEN WITH THE SEED: THE CARDS: each row of YtdaoblhmnafllaaDoorRows.lean that lists a variable, with what it lists TIED to the program's text (the seventh form; the later family's looks); each row that meets fmt, with fmt's text TOLD by the authors' own Lean function (tested against real Go, not proved from fmt's source: count such statements apart). THE CARD IS WHAT COUNTS. Prove the row's statement (the work); the ties are given (YtdaoblhmnafllaaDoorTie.lean); close each card by the builder's one call (the guide's Derived/Test/ToyasCard.lean, 'card_holds'). Laid BY PROGRAM, IN A SANDBOX (cutbox-door.mjs). By AI agents, Wed Nov 11 2026. No macro, syntax, notation, axiom, sorry.
-/
import Derived.Test.YtdaoblhmnafllaaDoorRows
import GoSem.ClaimSeven
namespace Go.Proofs.YtdaoblhmnafllaaDoor
namespace Rows

/-- THE TIED CARD OF 'dioptralaw04.SoftKinds'. -/
def softKindsCard : Claim7 := { stood := { row := softKindsRow, standIns := [], harness := (true, "55abffcc28946040675e4f54f51a2be9b07d978c2810f7d4a83dd972585737b1"), looks := false }, kinds := [], alts := [], laidByText := true, laidKinds := [.data], laidTests := true, laidLooks := .later }
def SoftKindsCardSaid : Prop := Claim7.holds Tryd.pinned (.plain (OpenSpec.ofChange softKindsSpec)) softKindsCard

/-- THE TIED CARD OF 'dioptralaw04.SoftValues'. -/
def softValuesCard : Claim7 := { stood := { row := softValuesRow, standIns := [], harness := (true, "55abffcc28946040675e4f54f51a2be9b07d978c2810f7d4a83dd972585737b1"), looks := false }, kinds := [], alts := [], laidByText := true, laidKinds := [.data], laidTests := true, laidLooks := .later }
def SoftValuesCardSaid : Prop := Claim7.holds Tryd.pinned (.plain (OpenSpec.ofChange softValuesSpec)) softValuesCard

/-- THE TIED CARD OF 'dioptralaw04.SoftRounds'. -/
def softRoundsCard : Claim7 := { stood := { row := softRoundsRow, standIns := [], harness := (true, "55abffcc28946040675e4f54f51a2be9b07d978c2810f7d4a83dd972585737b1"), looks := false }, kinds := [], alts := [], laidByText := true, laidKinds := [.data], laidTests := true, laidLooks := .later }
def SoftRoundsCardSaid : Prop := Claim7.holds Tryd.pinned (.plain (OpenSpec.ofChange softRoundsSpec)) softRoundsCard

/-- THE TIED CARD OF 'dioptralaw04.SoftBack'. -/
def softBackCard : Claim7 := { stood := { row := softBackRow, standIns := [], harness := (true, "55abffcc28946040675e4f54f51a2be9b07d978c2810f7d4a83dd972585737b1"), looks := false }, kinds := [], alts := [], laidByText := true, laidKinds := [.data], laidTests := true, laidLooks := .later }
def SoftBackCardSaid : Prop := Claim7.holds Tryd.pinned (.plain (OpenSpec.ofChange softBackSpec)) softBackCard

/-- THE TIED CARD OF 'dioptralaw04.SoftRises'. -/
def softRisesCard : Claim7 := { stood := { row := softRisesRow, standIns := [], harness := (true, "55abffcc28946040675e4f54f51a2be9b07d978c2810f7d4a83dd972585737b1"), looks := false }, kinds := [], alts := [], laidByText := true, laidKinds := [.data], laidTests := true, laidLooks := .later }
def SoftRisesCardSaid : Prop := Claim7.holds Tryd.pinned (.plain (OpenSpec.ofChange softRisesSpec)) softRisesCard

/-- THE TIED CARD OF 'dioptralaw04.SoftNearest'. -/
def softNearestCard : Claim7 := { stood := { row := softNearestRow, standIns := [], harness := (true, "55abffcc28946040675e4f54f51a2be9b07d978c2810f7d4a83dd972585737b1"), looks := false }, kinds := [], alts := [], laidByText := true, laidKinds := [.data], laidTests := true, laidLooks := .later }
def SoftNearestCardSaid : Prop := Claim7.holds Tryd.pinned (.plain (OpenSpec.ofChange softNearestSpec)) softNearestCard

/-- THE TIED CARD OF 'dioptralaw04.SoftUp'. -/
def softUpCard : Claim7 := { stood := { row := softUpRow, standIns := [], harness := (true, "55abffcc28946040675e4f54f51a2be9b07d978c2810f7d4a83dd972585737b1"), looks := false }, kinds := [], alts := [], laidByText := true, laidKinds := [.data], laidTests := true, laidLooks := .later }
def SoftUpCardSaid : Prop := Claim7.holds Tryd.pinned (.plain (OpenSpec.ofChange softUpSpec)) softUpCard

/-- THE SECOND FORM's CARD OF 'dioptralaw04.SoftKinds'. -/
def softKindsUptoCard : Claim7 := { stood := { row := softKindsUptoRow, standIns := [], harness := (true, "55abffcc28946040675e4f54f51a2be9b07d978c2810f7d4a83dd972585737b1"), looks := false }, kinds := [], alts := [], laidByText := true, laidKinds := [.data], laidTests := true, laidLooks := .later }
def SoftKindsUptoCardSaid : Prop := Claim7.holds Tryd.pinned (.plain (OpenSpec.upto softKindsSpec)) softKindsUptoCard

/-- THE SECOND FORM's CARD OF 'dioptralaw04.SoftValues'. -/
def softValuesUptoCard : Claim7 := { stood := { row := softValuesUptoRow, standIns := [], harness := (true, "55abffcc28946040675e4f54f51a2be9b07d978c2810f7d4a83dd972585737b1"), looks := false }, kinds := [], alts := [], laidByText := true, laidKinds := [.data], laidTests := true, laidLooks := .later }
def SoftValuesUptoCardSaid : Prop := Claim7.holds Tryd.pinned (.plain (OpenSpec.upto softValuesSpec)) softValuesUptoCard

/-- THE SECOND FORM's CARD OF 'dioptralaw04.SoftRounds'. -/
def softRoundsUptoCard : Claim7 := { stood := { row := softRoundsUptoRow, standIns := [], harness := (true, "55abffcc28946040675e4f54f51a2be9b07d978c2810f7d4a83dd972585737b1"), looks := false }, kinds := [], alts := [], laidByText := true, laidKinds := [.data], laidTests := true, laidLooks := .later }
def SoftRoundsUptoCardSaid : Prop := Claim7.holds Tryd.pinned (.plain (OpenSpec.upto softRoundsSpec)) softRoundsUptoCard

/-- THE SECOND FORM's CARD OF 'dioptralaw04.SoftBack'. -/
def softBackUptoCard : Claim7 := { stood := { row := softBackUptoRow, standIns := [], harness := (true, "55abffcc28946040675e4f54f51a2be9b07d978c2810f7d4a83dd972585737b1"), looks := false }, kinds := [], alts := [], laidByText := true, laidKinds := [.data], laidTests := true, laidLooks := .later }
def SoftBackUptoCardSaid : Prop := Claim7.holds Tryd.pinned (.plain (OpenSpec.upto softBackSpec)) softBackUptoCard

/-- THE SECOND FORM's CARD OF 'dioptralaw04.SoftRises'. -/
def softRisesUptoCard : Claim7 := { stood := { row := softRisesUptoRow, standIns := [], harness := (true, "55abffcc28946040675e4f54f51a2be9b07d978c2810f7d4a83dd972585737b1"), looks := false }, kinds := [], alts := [], laidByText := true, laidKinds := [.data], laidTests := true, laidLooks := .later }
def SoftRisesUptoCardSaid : Prop := Claim7.holds Tryd.pinned (.plain (OpenSpec.upto softRisesSpec)) softRisesUptoCard

/-- THE SECOND FORM's CARD OF 'dioptralaw04.SoftNearest'. -/
def softNearestUptoCard : Claim7 := { stood := { row := softNearestUptoRow, standIns := [], harness := (true, "55abffcc28946040675e4f54f51a2be9b07d978c2810f7d4a83dd972585737b1"), looks := false }, kinds := [], alts := [], laidByText := true, laidKinds := [.data], laidTests := true, laidLooks := .later }
def SoftNearestUptoCardSaid : Prop := Claim7.holds Tryd.pinned (.plain (OpenSpec.upto softNearestSpec)) softNearestUptoCard

/-- THE SECOND FORM's CARD OF 'dioptralaw04.SoftUp'. -/
def softUpUptoCard : Claim7 := { stood := { row := softUpUptoRow, standIns := [], harness := (true, "55abffcc28946040675e4f54f51a2be9b07d978c2810f7d4a83dd972585737b1"), looks := false }, kinds := [], alts := [], laidByText := true, laidKinds := [.data], laidTests := true, laidLooks := .later }
def SoftUpUptoCardSaid : Prop := Claim7.holds Tryd.pinned (.plain (OpenSpec.upto softUpSpec)) softUpUptoCard
end Rows
end Go.Proofs.YtdaoblhmnafllaaDoor
