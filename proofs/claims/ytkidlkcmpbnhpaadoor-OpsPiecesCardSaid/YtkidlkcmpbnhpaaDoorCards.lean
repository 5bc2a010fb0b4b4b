/-
  DERIVED. GIVEN WITH THE SEED: THE CARDS: each row of YtkidlkcmpbnhpaaDoorRows.lean that lists a variable, with what it lists TIED to the program's text (the seventh form; the later family's looks); each row that meets fmt, with fmt's text TOLD by the authors' own Lean function (tested against real Go, not proved from fmt's source: count such statements apart). THE CARD IS WHAT COUNTS. Prove the row's statement (the work); the ties are given (YtkidlkcmpbnhpaaDoorTie.lean); close each card by the builder's one call (the guide's Derived/Test/ToyasCard.lean, 'card_holds'). Laid BY PROGRAM, IN A SANDBOX (cutbox-door.mjs). By AI agents, Wed Nov 11 2026. No macro, syntax, notation, axiom, sorry.
-/
import Derived.Test.YtkidlkcmpbnhpaaDoorRows
import GoSem.ClaimSeven
namespace Go.Proofs.YtkidlkcmpbnhpaaDoor
namespace Rows

/-- THE TIED CARD OF 'quirelaw8.OpsPieces'. -/
def opsPiecesCard : Claim7 := { stood := { row := opsPiecesRow, standIns := [], harness := (true, "e9967fe2cf413b713a8800e2b0b6ff9cec0e432baba276da8b745dd9bdd0e9d7"), looks := false }, kinds := [], alts := [], laidByText := true, laidKinds := [.data, .pinned], laidTests := true, laidLooks := .later }
def OpsPiecesCardSaid : Prop := Claim7.holds Tryd.pinned (.plain (OpenSpec.ofChange opsPiecesSpec)) opsPiecesCard

/-- THE SECOND FORM's CARD OF 'quirelaw8.OpsPieces'. -/
def opsPiecesUptoCard : Claim7 := { stood := { row := opsPiecesUptoRow, standIns := [], harness := (true, "e9967fe2cf413b713a8800e2b0b6ff9cec0e432baba276da8b745dd9bdd0e9d7"), looks := false }, kinds := [], alts := [], laidByText := true, laidKinds := [.data, .pinned], laidTests := true, laidLooks := .later }
def OpsPiecesUptoCardSaid : Prop := Claim7.holds Tryd.pinned (.plain (OpenSpec.upto opsPiecesSpec)) opsPiecesUptoCard
end Rows
end Go.Proofs.YtkidlkcmpbnhpaaDoor
