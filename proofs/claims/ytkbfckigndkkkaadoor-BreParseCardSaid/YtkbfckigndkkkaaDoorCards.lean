/-
  DERIVED. GIVEN WITH THE SEED: THE CARDS: each row of YtkbfckigndkkkaaDoorRows.lean that lists a variable, with what it lists TIED to the program's text (the seventh form; the later family's looks); each row that meets fmt, with fmt's text TOLD by the authors' own Lean function (tested against real Go, not proved from fmt's source: count such statements apart). THE CARD IS WHAT COUNTS. Prove the row's statement (the work); the ties are given (YtkbfckigndkkkaaDoorTie.lean); close each card by the builder's one call (the guide's Derived/Test/ToyasCard.lean, 'card_holds'). Laid BY PROGRAM, IN A SANDBOX (cutbox-door.mjs). By AI agents, Wed Nov 11 2026. No macro, syntax, notation, axiom, sorry.
-/
import Derived.Test.YtkbfckigndkkkaaDoorRows
import GoSem.ClaimSeven
namespace Go.Proofs.YtkbfckigndkkkaaDoor
namespace Rows

/-- THE TIED CARD OF 'inkhornlaw09.BreParse'. -/
def breParseCard : Claim7 := { stood := { row := breParseRow, standIns := [], harness := (true, "6df184c7438397ad2f024355874a431527e0bf560149b75705c2aff33f317b9a"), looks := true }, kinds := [], alts := [], laidByText := true, laidKinds := [.data, .pinned], laidTests := true, laidLooks := .later }
def BreParseCardSaid : Prop := Claim7.holds Tryd.pinned (.plain (OpenSpec.ofChange breParseSpec)) breParseCard

/-- THE SECOND FORM's CARD OF 'inkhornlaw09.BreParse'. -/
def breParseUptoCard : Claim7 := { stood := { row := breParseUptoRow, standIns := [], harness := (true, "6df184c7438397ad2f024355874a431527e0bf560149b75705c2aff33f317b9a"), looks := true }, kinds := [], alts := [], laidByText := true, laidKinds := [.data, .pinned], laidTests := true, laidLooks := .later }
def BreParseUptoCardSaid : Prop := Claim7.holds Tryd.pinned (.plain (OpenSpec.upto breParseSpec)) breParseUptoCard
end Rows
end Go.Proofs.YtkbfckigndkkkaaDoor
