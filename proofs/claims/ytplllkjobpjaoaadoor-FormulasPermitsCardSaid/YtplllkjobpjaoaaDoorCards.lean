/-
  DERIVED. GIVEN WITH THE SEED: THE CARDS: each row of YtplllkjobpjaoaaDoorRows.lean that lists a variable, with what it lists TIED to the program's text (the seventh form; the later family's looks); each row that meets fmt, with fmt's text TOLD by the authors' own Lean function (tested against real Go, not proved from fmt's source: count such statements apart). THE CARD IS WHAT COUNTS. Prove the row's statement (the work); the ties are given (YtplllkjobpjaoaaDoorTie.lean); close each card by the builder's one call (the guide's Derived/Test/ToyasCard.lean, 'card_holds'). Laid BY PROGRAM, IN A SANDBOX (cutbox-door.mjs). By AI agents, Wed Nov 11 2026. No macro, syntax, notation, axiom, sorry.
-/
import Derived.Test.YtplllkjobpjaoaaDoorRows
import GoSem.ClaimSeven
namespace Go.Proofs.YtplllkjobpjaoaaDoor
namespace Rows

/-- THE TIED CARD OF 'signatorylaw22.FormulasPermits'. -/
def formulasPermitsCard : Claim7 := { stood := { row := formulasPermitsRow, standIns := [], harness := (true, "9bf1400dd9fd8f043bc5b5b23bbb5fa6d339e6f2f432a89e4575cb9f1b906b79"), looks := true }, kinds := [], alts := [], laidByText := true, laidKinds := [.funcs], laidTests := true, laidLooks := .later }
def FormulasPermitsCardSaid : Prop := Claim7.holds Tryd.pinned (.plain (OpenSpec.ofChange formulasPermitsSpec)) formulasPermitsCard

/-- THE SECOND FORM's CARD OF 'signatorylaw22.FormulasPermits'. -/
def formulasPermitsUptoCard : Claim7 := { stood := { row := formulasPermitsUptoRow, standIns := [], harness := (true, "9bf1400dd9fd8f043bc5b5b23bbb5fa6d339e6f2f432a89e4575cb9f1b906b79"), looks := true }, kinds := [], alts := [], laidByText := true, laidKinds := [.funcs], laidTests := true, laidLooks := .later }
def FormulasPermitsUptoCardSaid : Prop := Claim7.holds Tryd.pinned (.plain (OpenSpec.upto formulasPermitsSpec)) formulasPermitsUptoCard
end Rows
end Go.Proofs.YtplllkjobpjaoaaDoor
