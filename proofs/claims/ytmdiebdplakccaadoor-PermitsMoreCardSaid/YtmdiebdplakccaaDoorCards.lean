/-
  DERIVED. GIVEN WITH THE SEED: THE CARDS: each row of YtmdiebdplakccaaDoorRows.lean that lists a variable, with what it lists TIED to the program's text (the seventh form; the later family's looks); each row that meets fmt, with fmt's text TOLD by the authors' own Lean function (tested against real Go, not proved from fmt's source: count such statements apart). THE CARD IS WHAT COUNTS. Prove the row's statement (the work); the ties are given (YtmdiebdplakccaaDoorTie.lean); close each card by the builder's one call (the guide's Derived/Test/ToyasCard.lean, 'card_holds'). Laid BY PROGRAM, IN A SANDBOX (cutbox-door.mjs). By AI agents, Wed Nov 11 2026. No macro, syntax, notation, axiom, sorry.
-/
import Derived.Test.YtmdiebdplakccaaDoorRows
import GoSem.ClaimSeven
namespace Go.Proofs.YtmdiebdplakccaaDoor
namespace Rows

/-- THE TIED CARD OF 'signatorylaw21.PermitsSpec'. -/
def permitsSpecCard : Claim7 := { stood := { row := permitsSpecRow, standIns := [], harness := (true, "5c57dc1af2df3832beac3a4ebc3fffba003160a951b2cb004f38c5fd43919566"), looks := true }, kinds := [], alts := [], laidByText := true, laidKinds := [.funcs], laidTests := true, laidLooks := .later }
def PermitsSpecCardSaid : Prop := Claim7.holds Tryd.pinned (.plain (OpenSpec.ofChange permitsSpecSpec)) permitsSpecCard

/-- THE TIED CARD OF 'signatorylaw21.PermitsChangesSpec'. -/
def permitsChangesSpecCard : Claim7 := { stood := { row := permitsChangesSpecRow, standIns := [], harness := (true, "5c57dc1af2df3832beac3a4ebc3fffba003160a951b2cb004f38c5fd43919566"), looks := true }, kinds := [], alts := [], laidByText := true, laidKinds := [.funcs], laidTests := true, laidLooks := .later }
def PermitsChangesSpecCardSaid : Prop := Claim7.holds Tryd.pinned (.plain (OpenSpec.ofChange permitsChangesSpecSpec)) permitsChangesSpecCard

/-- THE TIED CARD OF 'signatorylaw21.PermitsParts'. -/
def permitsPartsCard : Claim7 := { stood := { row := permitsPartsRow, standIns := [], harness := (true, "5c57dc1af2df3832beac3a4ebc3fffba003160a951b2cb004f38c5fd43919566"), looks := true }, kinds := [], alts := [], laidByText := true, laidKinds := [.funcs], laidTests := true, laidLooks := .later }
def PermitsPartsCardSaid : Prop := Claim7.holds Tryd.pinned (.plain (OpenSpec.ofChange permitsPartsSpec)) permitsPartsCard

/-- THE TIED CARD OF 'signatorylaw21.PermitsMore'. -/
def permitsMoreCard : Claim7 := { stood := { row := permitsMoreRow, standIns := [], harness := (true, "5c57dc1af2df3832beac3a4ebc3fffba003160a951b2cb004f38c5fd43919566"), looks := true }, kinds := [], alts := [], laidByText := true, laidKinds := [.funcs], laidTests := true, laidLooks := .later }
def PermitsMoreCardSaid : Prop := Claim7.holds Tryd.pinned (.plain (OpenSpec.ofChange permitsMoreSpec)) permitsMoreCard

/-- THE TIED CARD OF 'signatorylaw21.PermitsNobody'. -/
def permitsNobodyCard : Claim7 := { stood := { row := permitsNobodyRow, standIns := [], harness := (true, "5c57dc1af2df3832beac3a4ebc3fffba003160a951b2cb004f38c5fd43919566"), looks := true }, kinds := [], alts := [], laidByText := true, laidKinds := [.funcs], laidTests := true, laidLooks := .later }
def PermitsNobodyCardSaid : Prop := Claim7.holds Tryd.pinned (.plain (OpenSpec.ofChange permitsNobodySpec)) permitsNobodyCard

/-- THE TIED CARD OF 'signatorylaw21.PermitsValue'. -/
def permitsValueCard : Claim7 := { stood := { row := permitsValueRow, standIns := [], harness := (true, "5c57dc1af2df3832beac3a4ebc3fffba003160a951b2cb004f38c5fd43919566"), looks := true }, kinds := [], alts := [], laidByText := true, laidKinds := [.funcs], laidTests := true, laidLooks := .later }
def PermitsValueCardSaid : Prop := Claim7.holds Tryd.pinned (.plain (OpenSpec.ofChange permitsValueSpec)) permitsValueCard

/-- THE SECOND FORM's CARD OF 'signatorylaw21.PermitsSpec'. -/
def permitsSpecUptoCard : Claim7 := { stood := { row := permitsSpecUptoRow, standIns := [], harness := (true, "5c57dc1af2df3832beac3a4ebc3fffba003160a951b2cb004f38c5fd43919566"), looks := true }, kinds := [], alts := [], laidByText := true, laidKinds := [.funcs], laidTests := true, laidLooks := .later }
def PermitsSpecUptoCardSaid : Prop := Claim7.holds Tryd.pinned (.plain (OpenSpec.upto permitsSpecSpec)) permitsSpecUptoCard

/-- THE SECOND FORM's CARD OF 'signatorylaw21.PermitsChangesSpec'. -/
def permitsChangesSpecUptoCard : Claim7 := { stood := { row := permitsChangesSpecUptoRow, standIns := [], harness := (true, "5c57dc1af2df3832beac3a4ebc3fffba003160a951b2cb004f38c5fd43919566"), looks := true }, kinds := [], alts := [], laidByText := true, laidKinds := [.funcs], laidTests := true, laidLooks := .later }
def PermitsChangesSpecUptoCardSaid : Prop := Claim7.holds Tryd.pinned (.plain (OpenSpec.upto permitsChangesSpecSpec)) permitsChangesSpecUptoCard

/-- THE SECOND FORM's CARD OF 'signatorylaw21.PermitsParts'. -/
def permitsPartsUptoCard : Claim7 := { stood := { row := permitsPartsUptoRow, standIns := [], harness := (true, "5c57dc1af2df3832beac3a4ebc3fffba003160a951b2cb004f38c5fd43919566"), looks := true }, kinds := [], alts := [], laidByText := true, laidKinds := [.funcs], laidTests := true, laidLooks := .later }
def PermitsPartsUptoCardSaid : Prop := Claim7.holds Tryd.pinned (.plain (OpenSpec.upto permitsPartsSpec)) permitsPartsUptoCard

/-- THE SECOND FORM's CARD OF 'signatorylaw21.PermitsMore'. -/
def permitsMoreUptoCard : Claim7 := { stood := { row := permitsMoreUptoRow, standIns := [], harness := (true, "5c57dc1af2df3832beac3a4ebc3fffba003160a951b2cb004f38c5fd43919566"), looks := true }, kinds := [], alts := [], laidByText := true, laidKinds := [.funcs], laidTests := true, laidLooks := .later }
def PermitsMoreUptoCardSaid : Prop := Claim7.holds Tryd.pinned (.plain (OpenSpec.upto permitsMoreSpec)) permitsMoreUptoCard

/-- THE SECOND FORM's CARD OF 'signatorylaw21.PermitsNobody'. -/
def permitsNobodyUptoCard : Claim7 := { stood := { row := permitsNobodyUptoRow, standIns := [], harness := (true, "5c57dc1af2df3832beac3a4ebc3fffba003160a951b2cb004f38c5fd43919566"), looks := true }, kinds := [], alts := [], laidByText := true, laidKinds := [.funcs], laidTests := true, laidLooks := .later }
def PermitsNobodyUptoCardSaid : Prop := Claim7.holds Tryd.pinned (.plain (OpenSpec.upto permitsNobodySpec)) permitsNobodyUptoCard

/-- THE SECOND FORM's CARD OF 'signatorylaw21.PermitsValue'. -/
def permitsValueUptoCard : Claim7 := { stood := { row := permitsValueUptoRow, standIns := [], harness := (true, "5c57dc1af2df3832beac3a4ebc3fffba003160a951b2cb004f38c5fd43919566"), looks := true }, kinds := [], alts := [], laidByText := true, laidKinds := [.funcs], laidTests := true, laidLooks := .later }
def PermitsValueUptoCardSaid : Prop := Claim7.holds Tryd.pinned (.plain (OpenSpec.upto permitsValueSpec)) permitsValueUptoCard
end Rows
end Go.Proofs.YtmdiebdplakccaaDoor
