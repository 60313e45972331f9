/-
  DERIVED. GIVEN WITH THE SEED: THE CARDS: each row of YtphndngifjgeoaaDoorRows.lean that lists a variable, with what it lists TIED to the program's text (the seventh form; the later family's looks); each row that meets fmt, with fmt's text TOLD by the authors' own Lean function (tested against real Go, not proved from fmt's source: count such statements apart). THE CARD IS WHAT COUNTS. Prove the row's statement (the work); the ties are given (YtphndngifjgeoaaDoorTie.lean); close each card by the builder's one call (the guide's Derived/Test/ToyasCard.lean, 'card_holds'). Laid BY PROGRAM, IN A SANDBOX (cutbox-door.mjs). By AI agents, Wed Nov 11 2026. No macro, syntax, notation, axiom, sorry.
-/
import Derived.Test.YtphndngifjgeoaaDoorRows
import GoSem.ClaimSeven
namespace Go.Proofs.YtphndngifjgeoaaDoor
namespace Rows

/-- THE TIED CARD OF 'dioptralaw11.CertifyRanks'. -/
def certifyRanksCard : Claim7 := { stood := { row := certifyRanksRow, standIns := [], harness := (true, "b61c4f38202e23c8f8d4caba2f7823d537102bfe5c1b0e6e82fce77dc279e0ce"), looks := false }, kinds := [], alts := [], laidByText := true, laidKinds := [.data], laidTests := true, laidLooks := .later }
def CertifyRanksCardSaid : Prop := Claim7.holds Tryd.pinned (.plain (OpenSpec.ofChange certifyRanksSpec)) certifyRanksCard

/-- THE TIED CARD OF 'dioptralaw11.CertifyNoughts'. -/
def certifyNoughtsCard : Claim7 := { stood := { row := certifyNoughtsRow, standIns := [], harness := (true, "b61c4f38202e23c8f8d4caba2f7823d537102bfe5c1b0e6e82fce77dc279e0ce"), looks := false }, kinds := [], alts := [], laidByText := true, laidKinds := [.data], laidTests := true, laidLooks := .later }
def CertifyNoughtsCardSaid : Prop := Claim7.holds Tryd.pinned (.plain (OpenSpec.ofChange certifyNoughtsSpec)) certifyNoughtsCard

/-- THE TIED CARD OF 'dioptralaw11.CertifyResiduals'. -/
def certifyResidualsCard : Claim7 := { stood := { row := certifyResidualsRow, standIns := [], harness := (true, "b61c4f38202e23c8f8d4caba2f7823d537102bfe5c1b0e6e82fce77dc279e0ce"), looks := false }, kinds := [], alts := [], laidByText := true, laidKinds := [.data], laidTests := true, laidLooks := .later }
def CertifyResidualsCardSaid : Prop := Claim7.holds Tryd.pinned (.plain (OpenSpec.ofChange certifyResidualsSpec)) certifyResidualsCard

/-- THE TIED CARD OF 'dioptralaw11.CertifyScales'. -/
def certifyScalesCard : Claim7 := { stood := { row := certifyScalesRow, standIns := [], harness := (true, "b61c4f38202e23c8f8d4caba2f7823d537102bfe5c1b0e6e82fce77dc279e0ce"), looks := false }, kinds := [], alts := [], laidByText := true, laidKinds := [.data], laidTests := true, laidLooks := .later }
def CertifyScalesCardSaid : Prop := Claim7.holds Tryd.pinned (.plain (OpenSpec.ofChange certifyScalesSpec)) certifyScalesCard

/-- THE TIED CARD OF 'dioptralaw11.CertifyWithins'. -/
def certifyWithinsCard : Claim7 := { stood := { row := certifyWithinsRow, standIns := [], harness := (true, "b61c4f38202e23c8f8d4caba2f7823d537102bfe5c1b0e6e82fce77dc279e0ce"), looks := false }, kinds := [], alts := [], laidByText := true, laidKinds := [.data], laidTests := true, laidLooks := .later }
def CertifyWithinsCardSaid : Prop := Claim7.holds Tryd.pinned (.plain (OpenSpec.ofChange certifyWithinsSpec)) certifyWithinsCard

/-- THE SECOND FORM's CARD OF 'dioptralaw11.CertifyRanks'. -/
def certifyRanksUptoCard : Claim7 := { stood := { row := certifyRanksUptoRow, standIns := [], harness := (true, "b61c4f38202e23c8f8d4caba2f7823d537102bfe5c1b0e6e82fce77dc279e0ce"), looks := false }, kinds := [], alts := [], laidByText := true, laidKinds := [.data], laidTests := true, laidLooks := .later }
def CertifyRanksUptoCardSaid : Prop := Claim7.holds Tryd.pinned (.plain (OpenSpec.upto certifyRanksSpec)) certifyRanksUptoCard

/-- THE SECOND FORM's CARD OF 'dioptralaw11.CertifyNoughts'. -/
def certifyNoughtsUptoCard : Claim7 := { stood := { row := certifyNoughtsUptoRow, standIns := [], harness := (true, "b61c4f38202e23c8f8d4caba2f7823d537102bfe5c1b0e6e82fce77dc279e0ce"), looks := false }, kinds := [], alts := [], laidByText := true, laidKinds := [.data], laidTests := true, laidLooks := .later }
def CertifyNoughtsUptoCardSaid : Prop := Claim7.holds Tryd.pinned (.plain (OpenSpec.upto certifyNoughtsSpec)) certifyNoughtsUptoCard

/-- THE SECOND FORM's CARD OF 'dioptralaw11.CertifyResiduals'. -/
def certifyResidualsUptoCard : Claim7 := { stood := { row := certifyResidualsUptoRow, standIns := [], harness := (true, "b61c4f38202e23c8f8d4caba2f7823d537102bfe5c1b0e6e82fce77dc279e0ce"), looks := false }, kinds := [], alts := [], laidByText := true, laidKinds := [.data], laidTests := true, laidLooks := .later }
def CertifyResidualsUptoCardSaid : Prop := Claim7.holds Tryd.pinned (.plain (OpenSpec.upto certifyResidualsSpec)) certifyResidualsUptoCard

/-- THE SECOND FORM's CARD OF 'dioptralaw11.CertifyScales'. -/
def certifyScalesUptoCard : Claim7 := { stood := { row := certifyScalesUptoRow, standIns := [], harness := (true, "b61c4f38202e23c8f8d4caba2f7823d537102bfe5c1b0e6e82fce77dc279e0ce"), looks := false }, kinds := [], alts := [], laidByText := true, laidKinds := [.data], laidTests := true, laidLooks := .later }
def CertifyScalesUptoCardSaid : Prop := Claim7.holds Tryd.pinned (.plain (OpenSpec.upto certifyScalesSpec)) certifyScalesUptoCard

/-- THE SECOND FORM's CARD OF 'dioptralaw11.CertifyWithins'. -/
def certifyWithinsUptoCard : Claim7 := { stood := { row := certifyWithinsUptoRow, standIns := [], harness := (true, "b61c4f38202e23c8f8d4caba2f7823d537102bfe5c1b0e6e82fce77dc279e0ce"), looks := false }, kinds := [], alts := [], laidByText := true, laidKinds := [.data], laidTests := true, laidLooks := .later }
def CertifyWithinsUptoCardSaid : Prop := Claim7.holds Tryd.pinned (.plain (OpenSpec.upto certifyWithinsSpec)) certifyWithinsUptoCard
end Rows
end Go.Proofs.YtphndngifjgeoaaDoor
