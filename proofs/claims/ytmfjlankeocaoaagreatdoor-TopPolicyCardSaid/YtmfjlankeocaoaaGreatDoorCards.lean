/-
  DERIVED. GIVEN WITH THE SEED: THE CARDS: each row of YtmfjlankeocaoaaGreatDoorRows.lean that lists a variable, with what it lists TIED to the program's text (the seventh form; the later family's looks); each row that meets fmt, with fmt's text TOLD by the authors' own Lean function (tested against real Go, not proved from fmt's source: count such statements apart). THE CARD IS WHAT COUNTS. Prove the row's statement (the work); the ties are given (YtmfjlankeocaoaaGreatDoorTie.lean); close each card by the builder's one call (the guide's Derived/Test/ToyasCard.lean, 'card_holds'). Laid BY PROGRAM, IN A SANDBOX (cutbox-door.mjs). By AI agents, Wed Nov 11 2026. No macro, syntax, notation, axiom, sorry.
-/
import Derived.Test.YtmfjlankeocaoaaGreatDoorRows
import GoSem.ClaimSeven
namespace Go.Proofs.YtmfjlankeocaoaaGreatDoor
namespace Rows

/-- THE TIED CARD OF 'signatorytop.TopPolicy'. -/
def topPolicyCard : Claim7 := { stood := { row := topPolicyRow, standIns := [], harness := (true, "88e862e90cdbb0cae7adb614118b9c5d0cd86baeed3de98355ba320766e4eb27"), looks := true }, kinds := [], alts := [], laidByText := true, laidKinds := [.data, .data, .data, .sentinel, .sentinel, .funcs], laidTests := true, laidLooks := .later }
def TopPolicyCardSaid : Prop := Claim7.holds Tryz.pinned (.plain (OpenSpec.ofChange topPolicySpec)) topPolicyCard

/-- THE SECOND FORM's CARD OF 'signatorytop.TopPolicy'. -/
def topPolicyUptoCard : Claim7 := { stood := { row := topPolicyUptoRow, standIns := [], harness := (true, "88e862e90cdbb0cae7adb614118b9c5d0cd86baeed3de98355ba320766e4eb27"), looks := true }, kinds := [], alts := [], laidByText := true, laidKinds := [.data, .data, .data, .sentinel, .sentinel, .funcs], laidTests := true, laidLooks := .later }
def TopPolicyUptoCardSaid : Prop := Claim7.holds Tryz.pinned (.plain (OpenSpec.upto topPolicySpec)) topPolicyUptoCard
end Rows
end Go.Proofs.YtmfjlankeocaoaaGreatDoor
