/-
  DERIVED. GIVEN WITH THE SEED: THE CARDS: each row of YtjdhgaflenhljaaDoorRows.lean that lists a variable, with what it lists TIED to the program's text (the seventh form; the later family's looks); each row that meets fmt, with fmt's text TOLD by the authors' own Lean function (tested against real Go, not proved from fmt's source: count such statements apart). THE CARD IS WHAT COUNTS. Prove the row's statement (the work); the ties are given (YtjdhgaflenhljaaDoorTie.lean); close each card by the builder's one call (the guide's Derived/Test/ToyasCard.lean, 'card_holds'). Laid BY PROGRAM, IN A SANDBOX (cutbox-door.mjs). By AI agents, Wed Nov 11 2026. No macro, syntax, notation, axiom, sorry.
-/
import Derived.Test.YtjdhgaflenhljaaDoorRows
import GoSem.ClaimSeven
namespace Go.Proofs.YtjdhgaflenhljaaDoor
namespace Rows

/-- THE TIED CARD OF 'signatorylaw27.UnderwayDecideSpec'. -/
def underwayDecideSpecCard : Claim7 := { stood := { row := underwayDecideSpecRow, standIns := [], harness := (true, "d3eeba7a2d751f72eceb5b9f1669311f7a6681f9c97a5f26d2d7c2e3438c977f"), looks := true }, kinds := [], alts := [], laidByText := true, laidKinds := [.funcs], laidTests := true, laidLooks := .later }
def UnderwayDecideSpecCardSaid : Prop := Claim7.holds Tryd.pinned (.plain (OpenSpec.ofChange underwayDecideSpecSpec)) underwayDecideSpecCard

/-- THE TIED CARD OF 'signatorylaw27.UnderwayNeeded'. -/
def underwayNeededCard : Claim7 := { stood := { row := underwayNeededRow, standIns := [], harness := (true, "d3eeba7a2d751f72eceb5b9f1669311f7a6681f9c97a5f26d2d7c2e3438c977f"), looks := true }, kinds := [], alts := [], laidByText := true, laidKinds := [.funcs], laidTests := true, laidLooks := .later }
def UnderwayNeededCardSaid : Prop := Claim7.holds Tryd.pinned (.plain (OpenSpec.ofChange underwayNeededSpec)) underwayNeededCard

/-- THE TIED CARD OF 'signatorylaw27.UnderwayLater'. -/
def underwayLaterCard : Claim7 := { stood := { row := underwayLaterRow, standIns := [], harness := (true, "d3eeba7a2d751f72eceb5b9f1669311f7a6681f9c97a5f26d2d7c2e3438c977f"), looks := true }, kinds := [], alts := [], laidByText := true, laidKinds := [.funcs], laidTests := true, laidLooks := .later }
def UnderwayLaterCardSaid : Prop := Claim7.holds Tryd.pinned (.plain (OpenSpec.ofChange underwayLaterSpec)) underwayLaterCard

/-- THE TIED CARD OF 'signatorylaw27.UnderwayForce'. -/
def underwayForceCard : Claim7 := { stood := { row := underwayForceRow, standIns := [], harness := (true, "d3eeba7a2d751f72eceb5b9f1669311f7a6681f9c97a5f26d2d7c2e3438c977f"), looks := true }, kinds := [], alts := [], laidByText := true, laidKinds := [.funcs], laidTests := true, laidLooks := .later }
def UnderwayForceCardSaid : Prop := Claim7.holds Tryd.pinned (.plain (OpenSpec.ofChange underwayForceSpec)) underwayForceCard

/-- THE TIED CARD OF 'signatorylaw27.UnderwayMore'. -/
def underwayMoreCard : Claim7 := { stood := { row := underwayMoreRow, standIns := [], harness := (true, "d3eeba7a2d751f72eceb5b9f1669311f7a6681f9c97a5f26d2d7c2e3438c977f"), looks := true }, kinds := [], alts := [], laidByText := true, laidKinds := [.funcs], laidTests := true, laidLooks := .later }
def UnderwayMoreCardSaid : Prop := Claim7.holds Tryd.pinned (.plain (OpenSpec.ofChange underwayMoreSpec)) underwayMoreCard

/-- THE SECOND FORM's CARD OF 'signatorylaw27.UnderwayDecideSpec'. -/
def underwayDecideSpecUptoCard : Claim7 := { stood := { row := underwayDecideSpecUptoRow, standIns := [], harness := (true, "d3eeba7a2d751f72eceb5b9f1669311f7a6681f9c97a5f26d2d7c2e3438c977f"), looks := true }, kinds := [], alts := [], laidByText := true, laidKinds := [.funcs], laidTests := true, laidLooks := .later }
def UnderwayDecideSpecUptoCardSaid : Prop := Claim7.holds Tryd.pinned (.plain (OpenSpec.upto underwayDecideSpecSpec)) underwayDecideSpecUptoCard

/-- THE SECOND FORM's CARD OF 'signatorylaw27.UnderwayNeeded'. -/
def underwayNeededUptoCard : Claim7 := { stood := { row := underwayNeededUptoRow, standIns := [], harness := (true, "d3eeba7a2d751f72eceb5b9f1669311f7a6681f9c97a5f26d2d7c2e3438c977f"), looks := true }, kinds := [], alts := [], laidByText := true, laidKinds := [.funcs], laidTests := true, laidLooks := .later }
def UnderwayNeededUptoCardSaid : Prop := Claim7.holds Tryd.pinned (.plain (OpenSpec.upto underwayNeededSpec)) underwayNeededUptoCard

/-- THE SECOND FORM's CARD OF 'signatorylaw27.UnderwayLater'. -/
def underwayLaterUptoCard : Claim7 := { stood := { row := underwayLaterUptoRow, standIns := [], harness := (true, "d3eeba7a2d751f72eceb5b9f1669311f7a6681f9c97a5f26d2d7c2e3438c977f"), looks := true }, kinds := [], alts := [], laidByText := true, laidKinds := [.funcs], laidTests := true, laidLooks := .later }
def UnderwayLaterUptoCardSaid : Prop := Claim7.holds Tryd.pinned (.plain (OpenSpec.upto underwayLaterSpec)) underwayLaterUptoCard

/-- THE SECOND FORM's CARD OF 'signatorylaw27.UnderwayForce'. -/
def underwayForceUptoCard : Claim7 := { stood := { row := underwayForceUptoRow, standIns := [], harness := (true, "d3eeba7a2d751f72eceb5b9f1669311f7a6681f9c97a5f26d2d7c2e3438c977f"), looks := true }, kinds := [], alts := [], laidByText := true, laidKinds := [.funcs], laidTests := true, laidLooks := .later }
def UnderwayForceUptoCardSaid : Prop := Claim7.holds Tryd.pinned (.plain (OpenSpec.upto underwayForceSpec)) underwayForceUptoCard

/-- THE SECOND FORM's CARD OF 'signatorylaw27.UnderwayMore'. -/
def underwayMoreUptoCard : Claim7 := { stood := { row := underwayMoreUptoRow, standIns := [], harness := (true, "d3eeba7a2d751f72eceb5b9f1669311f7a6681f9c97a5f26d2d7c2e3438c977f"), looks := true }, kinds := [], alts := [], laidByText := true, laidKinds := [.funcs], laidTests := true, laidLooks := .later }
def UnderwayMoreUptoCardSaid : Prop := Claim7.holds Tryd.pinned (.plain (OpenSpec.upto underwayMoreSpec)) underwayMoreUptoCard
end Rows
end Go.Proofs.YtjdhgaflenhljaaDoor
