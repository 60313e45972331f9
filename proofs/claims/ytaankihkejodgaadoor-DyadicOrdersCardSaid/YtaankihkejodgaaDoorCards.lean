/-
  DERIVED. GIVEN WITH THE SEED: THE CARDS: each row of YtaankihkejodgaaDoorRows.lean that lists a variable, with what it lists TIED to the program's text (the seventh form; the later family's looks); each row that meets fmt, with fmt's text TOLD by the authors' own Lean function (tested against real Go, not proved from fmt's source: count such statements apart). THE CARD IS WHAT COUNTS. Prove the row's statement (the work); the ties are given (YtaankihkejodgaaDoorTie.lean); close each card by the builder's one call (the guide's Derived/Test/ToyasCard.lean, 'card_holds'). Laid BY PROGRAM, IN A SANDBOX (cutbox-door.mjs). By AI agents, Wed Nov 11 2026. No macro, syntax, notation, axiom, sorry.
-/
import Derived.Test.YtaankihkejodgaaDoorRows
import GoSem.ClaimSeven
namespace Go.Proofs.YtaankihkejodgaaDoor
namespace Rows

/-- THE TIED CARD OF 'dioptralaw02.DyadicMakes'. -/
def dyadicMakesCard : Claim7 := { stood := { row := dyadicMakesRow, standIns := [], harness := (true, "0e1c23659f39405ea3a6cfaa257ca1f474a89663c95f4d2187b21e2df189fff8"), looks := false }, kinds := [], alts := [], laidByText := true, laidKinds := [.data], laidTests := true, laidLooks := .later }
def DyadicMakesCardSaid : Prop := Claim7.holds Tryd.pinned (.plain (OpenSpec.ofChange dyadicMakesSpec)) dyadicMakesCard

/-- THE TIED CARD OF 'dioptralaw02.DyadicChecks'. -/
def dyadicChecksCard : Claim7 := { stood := { row := dyadicChecksRow, standIns := [], harness := (true, "0e1c23659f39405ea3a6cfaa257ca1f474a89663c95f4d2187b21e2df189fff8"), looks := false }, kinds := [], alts := [], laidByText := true, laidKinds := [.data], laidTests := true, laidLooks := .later }
def DyadicChecksCardSaid : Prop := Claim7.holds Tryd.pinned (.plain (OpenSpec.ofChange dyadicChecksSpec)) dyadicChecksCard

/-- THE TIED CARD OF 'dioptralaw02.DyadicProducts'. -/
def dyadicProductsCard : Claim7 := { stood := { row := dyadicProductsRow, standIns := [], harness := (true, "0e1c23659f39405ea3a6cfaa257ca1f474a89663c95f4d2187b21e2df189fff8"), looks := false }, kinds := [], alts := [], laidByText := true, laidKinds := [.data], laidTests := true, laidLooks := .later }
def DyadicProductsCardSaid : Prop := Claim7.holds Tryd.pinned (.plain (OpenSpec.ofChange dyadicProductsSpec)) dyadicProductsCard

/-- THE TIED CARD OF 'dioptralaw02.DyadicSums'. -/
def dyadicSumsCard : Claim7 := { stood := { row := dyadicSumsRow, standIns := [], harness := (true, "0e1c23659f39405ea3a6cfaa257ca1f474a89663c95f4d2187b21e2df189fff8"), looks := false }, kinds := [], alts := [], laidByText := true, laidKinds := [.data], laidTests := true, laidLooks := .later }
def DyadicSumsCardSaid : Prop := Claim7.holds Tryd.pinned (.plain (OpenSpec.ofChange dyadicSumsSpec)) dyadicSumsCard

/-- THE TIED CARD OF 'dioptralaw02.DyadicLaws'. -/
def dyadicLawsCard : Claim7 := { stood := { row := dyadicLawsRow, standIns := [], harness := (true, "0e1c23659f39405ea3a6cfaa257ca1f474a89663c95f4d2187b21e2df189fff8"), looks := false }, kinds := [], alts := [], laidByText := true, laidKinds := [.data], laidTests := true, laidLooks := .later }
def DyadicLawsCardSaid : Prop := Claim7.holds Tryd.pinned (.plain (OpenSpec.ofChange dyadicLawsSpec)) dyadicLawsCard

/-- THE TIED CARD OF 'dioptralaw02.DyadicOrders'. -/
def dyadicOrdersCard : Claim7 := { stood := { row := dyadicOrdersRow, standIns := [], harness := (true, "0e1c23659f39405ea3a6cfaa257ca1f474a89663c95f4d2187b21e2df189fff8"), looks := false }, kinds := [], alts := [], laidByText := true, laidKinds := [.data], laidTests := true, laidLooks := .later }
def DyadicOrdersCardSaid : Prop := Claim7.holds Tryd.pinned (.plain (OpenSpec.ofChange dyadicOrdersSpec)) dyadicOrdersCard

/-- THE SECOND FORM's CARD OF 'dioptralaw02.DyadicMakes'. -/
def dyadicMakesUptoCard : Claim7 := { stood := { row := dyadicMakesUptoRow, standIns := [], harness := (true, "0e1c23659f39405ea3a6cfaa257ca1f474a89663c95f4d2187b21e2df189fff8"), looks := false }, kinds := [], alts := [], laidByText := true, laidKinds := [.data], laidTests := true, laidLooks := .later }
def DyadicMakesUptoCardSaid : Prop := Claim7.holds Tryd.pinned (.plain (OpenSpec.upto dyadicMakesSpec)) dyadicMakesUptoCard

/-- THE SECOND FORM's CARD OF 'dioptralaw02.DyadicChecks'. -/
def dyadicChecksUptoCard : Claim7 := { stood := { row := dyadicChecksUptoRow, standIns := [], harness := (true, "0e1c23659f39405ea3a6cfaa257ca1f474a89663c95f4d2187b21e2df189fff8"), looks := false }, kinds := [], alts := [], laidByText := true, laidKinds := [.data], laidTests := true, laidLooks := .later }
def DyadicChecksUptoCardSaid : Prop := Claim7.holds Tryd.pinned (.plain (OpenSpec.upto dyadicChecksSpec)) dyadicChecksUptoCard

/-- THE SECOND FORM's CARD OF 'dioptralaw02.DyadicProducts'. -/
def dyadicProductsUptoCard : Claim7 := { stood := { row := dyadicProductsUptoRow, standIns := [], harness := (true, "0e1c23659f39405ea3a6cfaa257ca1f474a89663c95f4d2187b21e2df189fff8"), looks := false }, kinds := [], alts := [], laidByText := true, laidKinds := [.data], laidTests := true, laidLooks := .later }
def DyadicProductsUptoCardSaid : Prop := Claim7.holds Tryd.pinned (.plain (OpenSpec.upto dyadicProductsSpec)) dyadicProductsUptoCard

/-- THE SECOND FORM's CARD OF 'dioptralaw02.DyadicSums'. -/
def dyadicSumsUptoCard : Claim7 := { stood := { row := dyadicSumsUptoRow, standIns := [], harness := (true, "0e1c23659f39405ea3a6cfaa257ca1f474a89663c95f4d2187b21e2df189fff8"), looks := false }, kinds := [], alts := [], laidByText := true, laidKinds := [.data], laidTests := true, laidLooks := .later }
def DyadicSumsUptoCardSaid : Prop := Claim7.holds Tryd.pinned (.plain (OpenSpec.upto dyadicSumsSpec)) dyadicSumsUptoCard

/-- THE SECOND FORM's CARD OF 'dioptralaw02.DyadicLaws'. -/
def dyadicLawsUptoCard : Claim7 := { stood := { row := dyadicLawsUptoRow, standIns := [], harness := (true, "0e1c23659f39405ea3a6cfaa257ca1f474a89663c95f4d2187b21e2df189fff8"), looks := false }, kinds := [], alts := [], laidByText := true, laidKinds := [.data], laidTests := true, laidLooks := .later }
def DyadicLawsUptoCardSaid : Prop := Claim7.holds Tryd.pinned (.plain (OpenSpec.upto dyadicLawsSpec)) dyadicLawsUptoCard

/-- THE SECOND FORM's CARD OF 'dioptralaw02.DyadicOrders'. -/
def dyadicOrdersUptoCard : Claim7 := { stood := { row := dyadicOrdersUptoRow, standIns := [], harness := (true, "0e1c23659f39405ea3a6cfaa257ca1f474a89663c95f4d2187b21e2df189fff8"), looks := false }, kinds := [], alts := [], laidByText := true, laidKinds := [.data], laidTests := true, laidLooks := .later }
def DyadicOrdersUptoCardSaid : Prop := Claim7.holds Tryd.pinned (.plain (OpenSpec.upto dyadicOrdersSpec)) dyadicOrdersUptoCard
end Rows
end Go.Proofs.YtaankihkejodgaaDoor
