/-
  DERIVED. GIVEN WITH THE SEED: THE CARDS: each row of YtphndngifjgeoaaGreatDoorRows.lean that lists a variable, with what it lists TIED to the program's text (the seventh form; the later family's looks); each row that meets fmt, with fmt's text TOLD by the authors' own Lean function (tested against real Go, not proved from fmt's source: count such statements apart). THE CARD IS WHAT COUNTS. Prove the row's statement (the work); the ties are given (YtphndngifjgeoaaGreatDoorTie.lean); close each card by the builder's one call (the guide's Derived/Test/ToyasCard.lean, 'card_holds'). Laid BY PROGRAM, IN A SANDBOX (cutbox-door.mjs). By AI agents, Wed Nov 11 2026. No macro, syntax, notation, axiom, sorry.
-/
import Derived.Test.YtphndngifjgeoaaGreatDoorRows
import GoSem.ClaimSeven
namespace Go.Proofs.YtphndngifjgeoaaGreatDoor
namespace Rows

/-- THE TIED CARD OF 'dioptralaw11.CertifySquares'. -/
def certifySquaresCard : Claim7 := { stood := { row := certifySquaresRow, standIns := [], harness := (true, "a63b161686d3a07c94d628dbf03deb271f2aa3154b73fd6886e7e36219c5702c"), looks := false }, kinds := [], alts := [], laidByText := true, laidKinds := [.data], laidTests := true, laidLooks := .later }
def CertifySquaresCardSaid : Prop := Claim7.holds Tryz.pinned (.plain (OpenSpec.ofChange certifySquaresSpec)) certifySquaresCard

/-- THE SECOND FORM's CARD OF 'dioptralaw11.CertifySquares'. -/
def certifySquaresUptoCard : Claim7 := { stood := { row := certifySquaresUptoRow, standIns := [], harness := (true, "a63b161686d3a07c94d628dbf03deb271f2aa3154b73fd6886e7e36219c5702c"), looks := false }, kinds := [], alts := [], laidByText := true, laidKinds := [.data], laidTests := true, laidLooks := .later }
def CertifySquaresUptoCardSaid : Prop := Claim7.holds Tryz.pinned (.plain (OpenSpec.upto certifySquaresSpec)) certifySquaresUptoCard
end Rows
end Go.Proofs.YtphndngifjgeoaaGreatDoor
