/-
  DERIVED. GIVEN WITH THE SEED: THE CARDS: each row of YtplllkjobpjaoaaGreatDoorRows.lean that lists a variable, with what it lists TIED to the program's text (the seventh form; the later family's looks); each row that meets fmt, with fmt's text TOLD by the authors' own Lean function (tested against real Go, not proved from fmt's source: count such statements apart). THE CARD IS WHAT COUNTS. Prove the row's statement (the work); the ties are given (YtplllkjobpjaoaaGreatDoorTie.lean); close each card by the builder's one call (the guide's Derived/Test/ToyasCard.lean, 'card_holds'). Laid BY PROGRAM, IN A SANDBOX (cutbox-door.mjs). By AI agents, Wed Nov 11 2026. No macro, syntax, notation, axiom, sorry.
-/
import Derived.Test.YtplllkjobpjaoaaGreatDoorRows
import GoSem.ClaimSeven
namespace Go.Proofs.YtplllkjobpjaoaaGreatDoor
namespace Rows

/-- THE TIED CARD OF 'signatorylaw22.FormulasCompileSpec'. -/
def formulasCompileSpecCard : Claim7 := { stood := { row := formulasCompileSpecRow, standIns := [], harness := (true, "91ec57f64752726d4b2f703d584244cf10cea0e065254b93067e3e8d74129dc7"), looks := true }, kinds := [], alts := [], laidByText := true, laidKinds := [.funcs], laidTests := true, laidLooks := .later }
def FormulasCompileSpecCardSaid : Prop := Claim7.holds Tryz.pinned (.plain (OpenSpec.ofChange formulasCompileSpecSpec)) formulasCompileSpecCard

/-- THE SECOND FORM's CARD OF 'signatorylaw22.FormulasCompileSpec'. -/
def formulasCompileSpecUptoCard : Claim7 := { stood := { row := formulasCompileSpecUptoRow, standIns := [], harness := (true, "91ec57f64752726d4b2f703d584244cf10cea0e065254b93067e3e8d74129dc7"), looks := true }, kinds := [], alts := [], laidByText := true, laidKinds := [.funcs], laidTests := true, laidLooks := .later }
def FormulasCompileSpecUptoCardSaid : Prop := Claim7.holds Tryz.pinned (.plain (OpenSpec.upto formulasCompileSpecSpec)) formulasCompileSpecUptoCard
end Rows
end Go.Proofs.YtplllkjobpjaoaaGreatDoor
