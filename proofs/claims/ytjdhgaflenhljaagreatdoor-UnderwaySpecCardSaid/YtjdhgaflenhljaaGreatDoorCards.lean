/-
  DERIVED. GIVEN WITH THE SEED: THE CARDS: each row of YtjdhgaflenhljaaGreatDoorRows.lean that lists a variable, with what it lists TIED to the program's text (the seventh form; the later family's looks); each row that meets fmt, with fmt's text TOLD by the authors' own Lean function (tested against real Go, not proved from fmt's source: count such statements apart). THE CARD IS WHAT COUNTS. Prove the row's statement (the work); the ties are given (YtjdhgaflenhljaaGreatDoorTie.lean); close each card by the builder's one call (the guide's Derived/Test/ToyasCard.lean, 'card_holds'). Laid BY PROGRAM, IN A SANDBOX (cutbox-door.mjs). By AI agents, Wed Nov 11 2026. No macro, syntax, notation, axiom, sorry.
-/
import Derived.Test.YtjdhgaflenhljaaGreatDoorRows
import GoSem.ClaimSeven
namespace Go.Proofs.YtjdhgaflenhljaaGreatDoor
namespace Rows

/-- THE TIED CARD OF 'signatorylaw27.UnderwaySpec'. -/
def underwaySpecCard : Claim7 := { stood := { row := underwaySpecRow, standIns := [], harness := (true, "0c2b522a98788bad28c292b0c09a62faa81730237c1232983dba5b311d1852f7"), looks := true }, kinds := [], alts := [], laidByText := true, laidKinds := [.funcs], laidTests := true, laidLooks := .later }
def UnderwaySpecCardSaid : Prop := Claim7.holds Tryz.pinned (.plain (OpenSpec.ofChange underwaySpecSpec)) underwaySpecCard

/-- THE SECOND FORM's CARD OF 'signatorylaw27.UnderwaySpec'. -/
def underwaySpecUptoCard : Claim7 := { stood := { row := underwaySpecUptoRow, standIns := [], harness := (true, "0c2b522a98788bad28c292b0c09a62faa81730237c1232983dba5b311d1852f7"), looks := true }, kinds := [], alts := [], laidByText := true, laidKinds := [.funcs], laidTests := true, laidLooks := .later }
def UnderwaySpecUptoCardSaid : Prop := Claim7.holds Tryz.pinned (.plain (OpenSpec.upto underwaySpecSpec)) underwaySpecUptoCard
end Rows
end Go.Proofs.YtjdhgaflenhljaaGreatDoor
