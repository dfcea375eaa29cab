/-
  NARROWER THAN 'FOR EVERY INPUT', by the rows' own cells (each row's printed sentence says how): PermitsSpec: loops, laid · PermitsChangesSpec: loops, laid · PermitsParts: loops, laid · PermitsMore: loops, laid · PermitsNobody: loops, laid · PermitsValue: loops, laid.
  DERIVED. THE GIVEN ROWS OF THIS SEAT. 6 by the template 'for every input the law returns true; each argument reads behind the call as it read before'; 0 by the template 'total and deterministic' (their statements: YtmdiebdplakccaaDoorTotals.lean).
  GIVEN WITH THE SEED: the statements are not yours to turn. If you find one false, say at which input.
  Laid BY PROGRAM, IN A SANDBOX (cutbox-rows.mjs): the forced cells as the released guide's own fill.sh prints them over the translation 97cd54e32b9ac23c… (all of the seat's roots in one cut). By AI agents, Wed Nov 11 2026. No macro, syntax, notation, axiom, sorry.
-/
import Derived.Test.YtmdiebdplakccaaDoorChecked
import GoSem.Claim
import GoSem.ClaimJoined
import GoSem.ClaimMapViews
import Derived.JoinedTies
import Derived.KernelRfl
namespace Go.Proofs.YtmdiebdplakccaaDoor
/- THE CELL 'sum', in the pinned program and in every row, IS THE sha256 OF THE DUMP (.gsa) THAT YtmdiebdplakccaaDoorProg.lean LOADS. Nothing in Lean hashes anything: it is a label: what it is worth is what the hold of that sum in a sandbox is worth. -/
noncomputable def Tryd.pinned : Pinned := { name := "ytmdiebdplakccaadoor", sum := "97cd54e32b9ac23c84947da7e820a66ee09545d6e4c9d5b0274b15b03415dc0f", checked := Tryd.checked }
namespace Rows
def none {H : Type} : Left H := { results := [], args := [] }

/- WHAT THE LISTED PACKAGE-LEVEL VARIABLES READ AS WHEN THE CALL BEGINS. Each datum BY PROGRAM (the guide's laid-datum.mjs) off the statement by which the dump's own 'gosem.cut.vars' lays the variable. In a bare row this is a premise. The card (YtmdiebdplakccaaDoorCards.lean) ties it to the program's text. -/
def laid_signatory_policies_kinds {H : Type} : DataW H := .iface "func table" (.agg [.iface "func" (.lit (.string [115, 105, 103, 110, 97, 116, 111, 114, 121, 47, 112, 111, 108, 105, 99, 105, 101, 115, 46, 107, 105, 110, 100, 115, 36, 49])), .iface "func" (.lit (.string [115, 105, 103, 110, 97, 116, 111, 114, 121, 47, 112, 111, 108, 105, 99, 105, 101, 115, 46, 107, 105, 110, 100, 115, 36, 50])), .iface "func" (.lit (.string [115, 105, 103, 110, 97, 116, 111, 114, 121, 47, 112, 111, 108, 105, 99, 105, 101, 115, 46, 107, 105, 110, 100, 115, 36, 51])), .iface "func" (.lit (.string [115, 105, 103, 110, 97, 116, 111, 114, 121, 47, 112, 111, 108, 105, 99, 105, 101, 115, 46, 107, 105, 110, 100, 115, 36, 52])), .iface "func" (.lit (.string [115, 105, 103, 110, 97, 116, 111, 114, 121, 47, 112, 111, 108, 105, 99, 105, 101, 115, 46, 107, 105, 110, 100, 115, 36, 53]))])

/-- 'signatorylaw21.PermitsSpec': WHATEVER THE INPUT: true; the input reads as it did. -/
def permitsSpecSpec : ChangeSpec := { name := "permitsSpec", fn := fun _ => fun
  | [d1, d2, d3, d4, d5] => { results := [.lit (.bool true)], args := [d1, d2, d3, d4, d5] }
  | _ => none }
def permitsSpecRow : OpenClaim := { program := "ytmdiebdplakccaadoor", sum := "97cd54e32b9ac23c84947da7e820a66ee09545d6e4c9d5b0274b15b03415dc0f", func := "signatory/signatorylaw21.PermitsSpec", spec := "permitsSpec", inPlace := ["internal/bytealg.IndexByteString"], unfollowed := true, recurses := true, named := ["signatory/policies.kinds"], loops := true, apart := false, laid := [("signatory/policies.kinds", laid_signatory_policies_kinds)] }
def PermitsSpecSaid : Prop := permitsSpecRow.holds Tryd.pinned (OpenSpec.ofChange permitsSpecSpec)

/-- ITS FALSE NEIGHBOUR: 'it returns false'. Refute it at one input. -/
def permitsSpecWrong : ChangeSpec := { name := "permitsSpec", fn := fun _ => fun
  | [d1, d2, d3, d4, d5] => { results := [.lit (.bool false)], args := [d1, d2, d3, d4, d5] }
  | _ => none }
def PermitsSpecWrongFalsely : Prop := permitsSpecRow.holds Tryd.pinned (OpenSpec.ofChange permitsSpecWrong)

/-- 'signatorylaw21.PermitsChangesSpec': WHATEVER THE INPUT: true; the input reads as it did. -/
def permitsChangesSpecSpec : ChangeSpec := { name := "permitsChangesSpec", fn := fun _ => fun
  | [d1, d2, d3] => { results := [.lit (.bool true)], args := [d1, d2, d3] }
  | _ => none }
def permitsChangesSpecRow : OpenClaim := { program := "ytmdiebdplakccaadoor", sum := "97cd54e32b9ac23c84947da7e820a66ee09545d6e4c9d5b0274b15b03415dc0f", func := "signatory/signatorylaw21.PermitsChangesSpec", spec := "permitsChangesSpec", inPlace := ["internal/bytealg.IndexByteString"], unfollowed := true, recurses := true, named := ["signatory/policies.kinds"], loops := true, apart := false, laid := [("signatory/policies.kinds", laid_signatory_policies_kinds)] }
def PermitsChangesSpecSaid : Prop := permitsChangesSpecRow.holds Tryd.pinned (OpenSpec.ofChange permitsChangesSpecSpec)

/-- ITS FALSE NEIGHBOUR: 'it returns false'. Refute it at one input. -/
def permitsChangesSpecWrong : ChangeSpec := { name := "permitsChangesSpec", fn := fun _ => fun
  | [d1, d2, d3] => { results := [.lit (.bool false)], args := [d1, d2, d3] }
  | _ => none }
def PermitsChangesSpecWrongFalsely : Prop := permitsChangesSpecRow.holds Tryd.pinned (OpenSpec.ofChange permitsChangesSpecWrong)

/-- 'signatorylaw21.PermitsParts': WHATEVER THE INPUT: true; the input reads as it did. -/
def permitsPartsSpec : ChangeSpec := { name := "permitsParts", fn := fun _ => fun
  | [d1, d2, d3, d4, d5] => { results := [.lit (.bool true)], args := [d1, d2, d3, d4, d5] }
  | _ => none }
def permitsPartsRow : OpenClaim := { program := "ytmdiebdplakccaadoor", sum := "97cd54e32b9ac23c84947da7e820a66ee09545d6e4c9d5b0274b15b03415dc0f", func := "signatory/signatorylaw21.PermitsParts", spec := "permitsParts", inPlace := ["internal/bytealg.IndexByteString"], unfollowed := true, recurses := true, named := ["signatory/policies.kinds"], loops := true, apart := false, laid := [("signatory/policies.kinds", laid_signatory_policies_kinds)] }
def PermitsPartsSaid : Prop := permitsPartsRow.holds Tryd.pinned (OpenSpec.ofChange permitsPartsSpec)

/-- ITS FALSE NEIGHBOUR: 'it returns false'. Refute it at one input. -/
def permitsPartsWrong : ChangeSpec := { name := "permitsParts", fn := fun _ => fun
  | [d1, d2, d3, d4, d5] => { results := [.lit (.bool false)], args := [d1, d2, d3, d4, d5] }
  | _ => none }
def PermitsPartsWrongFalsely : Prop := permitsPartsRow.holds Tryd.pinned (OpenSpec.ofChange permitsPartsWrong)

/-- 'signatorylaw21.PermitsMore': WHATEVER THE INPUT: true; the input reads as it did. -/
def permitsMoreSpec : ChangeSpec := { name := "permitsMore", fn := fun _ => fun
  | [d1, d2, d3, d4, d5, d6, d7, d8] => { results := [.lit (.bool true)], args := [d1, d2, d3, d4, d5, d6, d7, d8] }
  | _ => none }
def permitsMoreRow : OpenClaim := { program := "ytmdiebdplakccaadoor", sum := "97cd54e32b9ac23c84947da7e820a66ee09545d6e4c9d5b0274b15b03415dc0f", func := "signatory/signatorylaw21.PermitsMore", spec := "permitsMore", inPlace := ["internal/bytealg.IndexByteString"], unfollowed := true, recurses := true, named := ["signatory/policies.kinds"], loops := true, apart := false, laid := [("signatory/policies.kinds", laid_signatory_policies_kinds)] }
def PermitsMoreSaid : Prop := permitsMoreRow.holds Tryd.pinned (OpenSpec.ofChange permitsMoreSpec)

/-- ITS FALSE NEIGHBOUR: 'it returns false'. Refute it at one input. -/
def permitsMoreWrong : ChangeSpec := { name := "permitsMore", fn := fun _ => fun
  | [d1, d2, d3, d4, d5, d6, d7, d8] => { results := [.lit (.bool false)], args := [d1, d2, d3, d4, d5, d6, d7, d8] }
  | _ => none }
def PermitsMoreWrongFalsely : Prop := permitsMoreRow.holds Tryd.pinned (OpenSpec.ofChange permitsMoreWrong)

/-- 'signatorylaw21.PermitsNobody': WHATEVER THE INPUT: true; the input reads as it did. -/
def permitsNobodySpec : ChangeSpec := { name := "permitsNobody", fn := fun _ => fun
  | [d1, d2, d3, d4, d5] => { results := [.lit (.bool true)], args := [d1, d2, d3, d4, d5] }
  | _ => none }
def permitsNobodyRow : OpenClaim := { program := "ytmdiebdplakccaadoor", sum := "97cd54e32b9ac23c84947da7e820a66ee09545d6e4c9d5b0274b15b03415dc0f", func := "signatory/signatorylaw21.PermitsNobody", spec := "permitsNobody", inPlace := ["internal/bytealg.IndexByteString"], unfollowed := true, recurses := true, named := ["signatory/policies.kinds"], loops := true, apart := false, laid := [("signatory/policies.kinds", laid_signatory_policies_kinds)] }
def PermitsNobodySaid : Prop := permitsNobodyRow.holds Tryd.pinned (OpenSpec.ofChange permitsNobodySpec)

/-- ITS FALSE NEIGHBOUR: 'it returns false'. Refute it at one input. -/
def permitsNobodyWrong : ChangeSpec := { name := "permitsNobody", fn := fun _ => fun
  | [d1, d2, d3, d4, d5] => { results := [.lit (.bool false)], args := [d1, d2, d3, d4, d5] }
  | _ => none }
def PermitsNobodyWrongFalsely : Prop := permitsNobodyRow.holds Tryd.pinned (OpenSpec.ofChange permitsNobodyWrong)

/-- 'signatorylaw21.PermitsValue': WHATEVER THE INPUT: true; the input reads as it did. -/
def permitsValueSpec : ChangeSpec := { name := "permitsValue", fn := fun _ => fun
  | [d1, d2, d3, d4, d5, d6] => { results := [.lit (.bool true)], args := [d1, d2, d3, d4, d5, d6] }
  | _ => none }
def permitsValueRow : OpenClaim := { program := "ytmdiebdplakccaadoor", sum := "97cd54e32b9ac23c84947da7e820a66ee09545d6e4c9d5b0274b15b03415dc0f", func := "signatory/signatorylaw21.PermitsValue", spec := "permitsValue", inPlace := ["internal/bytealg.IndexByteString"], unfollowed := true, recurses := true, named := ["signatory/policies.kinds"], loops := true, apart := false, laid := [("signatory/policies.kinds", laid_signatory_policies_kinds)] }
def PermitsValueSaid : Prop := permitsValueRow.holds Tryd.pinned (OpenSpec.ofChange permitsValueSpec)

/-- ITS FALSE NEIGHBOUR: 'it returns false'. Refute it at one input. -/
def permitsValueWrong : ChangeSpec := { name := "permitsValue", fn := fun _ => fun
  | [d1, d2, d3, d4, d5, d6] => { results := [.lit (.bool false)], args := [d1, d2, d3, d4, d5, d6] }
  | _ => none }
def PermitsValueWrongFalsely : Prop := permitsValueRow.holds Tryd.pinned (OpenSpec.ofChange permitsValueWrong)

/- THE SECOND FORM. 'bulk': how many values and letters a reading holds, each counted each time it is reached (what is shared counts as often as it is met; a slice's spare places count too). A statement '..UptoSaid' is the law's where the arguments, and the package variables that the reading takes, are together of bulk at most 1048576: NARROWER than '..Said'. Prove '..Said' where nothing that the law and all that it calls make is longer than what came in: it says more and counts as full. Else prove '..UptoSaid'. A law counts once. -/
mutual
def uptoBulk {H : Type} : DataW H → Nat
  | .lit (.string bytes) => bytes.length + 1
  | .lit _ => 1
  | .nil => 1
  | .ptr d => uptoBulk d + 1
  | .slice elems spare => uptoBulkAll elems + uptoBulkAll spare + 1
  | .agg parts => uptoBulkAll parts + 1
  | .iface _ d => uptoBulk d + 1
  | .map entries => uptoBulkEntries entries + 1
  | .held _ => 1
def uptoBulkAll {H : Type} : List (DataW H) → Nat
  | [] => 0
  | d :: r => uptoBulk d + uptoBulkAll r
def uptoBulkEntries {H : Type} : List (Lit × DataW H) → Nat
  | [] => 0
  | x :: r => uptoBulkEntry x + uptoBulkEntries r
def uptoBulkEntry {H : Type} : Lit × DataW H → Nat
  | (.string bytes, d) => bytes.length + uptoBulk d + 1
  | (_, d) => uptoBulk d + 1
 end
def uptoSmall : (H : Type) → List (DataW H) → Bool := fun _ ds => decide (uptoBulkAll ds ≤ 1048576)
def OpenSpec.upto (s : _root_.Go.ChangeSpec) : _root_.Go.OpenSpec := { _root_.Go.OpenSpec.ofChange s with cond := some uptoSmall }

/-- 'signatorylaw21.PermitsSpec', WHERE WHAT IT READS IS OF BULK AT MOST 1048576: true; the input reads as it did. -/
def permitsSpecUptoRow : OpenClaim := { program := "ytmdiebdplakccaadoor", sum := "97cd54e32b9ac23c84947da7e820a66ee09545d6e4c9d5b0274b15b03415dc0f", func := "signatory/signatorylaw21.PermitsSpec", spec := "permitsSpec", inPlace := ["internal/bytealg.IndexByteString"], unfollowed := true, recurses := true, named := ["signatory/policies.kinds"], loops := true, apart := false, laid := [("signatory/policies.kinds", laid_signatory_policies_kinds)], narrowed := true }
def PermitsSpecUptoSaid : Prop := permitsSpecUptoRow.holds Tryd.pinned (OpenSpec.upto permitsSpecSpec)

/-- 'signatorylaw21.PermitsChangesSpec', WHERE WHAT IT READS IS OF BULK AT MOST 1048576: true; the input reads as it did. -/
def permitsChangesSpecUptoRow : OpenClaim := { program := "ytmdiebdplakccaadoor", sum := "97cd54e32b9ac23c84947da7e820a66ee09545d6e4c9d5b0274b15b03415dc0f", func := "signatory/signatorylaw21.PermitsChangesSpec", spec := "permitsChangesSpec", inPlace := ["internal/bytealg.IndexByteString"], unfollowed := true, recurses := true, named := ["signatory/policies.kinds"], loops := true, apart := false, laid := [("signatory/policies.kinds", laid_signatory_policies_kinds)], narrowed := true }
def PermitsChangesSpecUptoSaid : Prop := permitsChangesSpecUptoRow.holds Tryd.pinned (OpenSpec.upto permitsChangesSpecSpec)

/-- 'signatorylaw21.PermitsParts', WHERE WHAT IT READS IS OF BULK AT MOST 1048576: true; the input reads as it did. -/
def permitsPartsUptoRow : OpenClaim := { program := "ytmdiebdplakccaadoor", sum := "97cd54e32b9ac23c84947da7e820a66ee09545d6e4c9d5b0274b15b03415dc0f", func := "signatory/signatorylaw21.PermitsParts", spec := "permitsParts", inPlace := ["internal/bytealg.IndexByteString"], unfollowed := true, recurses := true, named := ["signatory/policies.kinds"], loops := true, apart := false, laid := [("signatory/policies.kinds", laid_signatory_policies_kinds)], narrowed := true }
def PermitsPartsUptoSaid : Prop := permitsPartsUptoRow.holds Tryd.pinned (OpenSpec.upto permitsPartsSpec)

/-- 'signatorylaw21.PermitsMore', WHERE WHAT IT READS IS OF BULK AT MOST 1048576: true; the input reads as it did. -/
def permitsMoreUptoRow : OpenClaim := { program := "ytmdiebdplakccaadoor", sum := "97cd54e32b9ac23c84947da7e820a66ee09545d6e4c9d5b0274b15b03415dc0f", func := "signatory/signatorylaw21.PermitsMore", spec := "permitsMore", inPlace := ["internal/bytealg.IndexByteString"], unfollowed := true, recurses := true, named := ["signatory/policies.kinds"], loops := true, apart := false, laid := [("signatory/policies.kinds", laid_signatory_policies_kinds)], narrowed := true }
def PermitsMoreUptoSaid : Prop := permitsMoreUptoRow.holds Tryd.pinned (OpenSpec.upto permitsMoreSpec)

/-- 'signatorylaw21.PermitsNobody', WHERE WHAT IT READS IS OF BULK AT MOST 1048576: true; the input reads as it did. -/
def permitsNobodyUptoRow : OpenClaim := { program := "ytmdiebdplakccaadoor", sum := "97cd54e32b9ac23c84947da7e820a66ee09545d6e4c9d5b0274b15b03415dc0f", func := "signatory/signatorylaw21.PermitsNobody", spec := "permitsNobody", inPlace := ["internal/bytealg.IndexByteString"], unfollowed := true, recurses := true, named := ["signatory/policies.kinds"], loops := true, apart := false, laid := [("signatory/policies.kinds", laid_signatory_policies_kinds)], narrowed := true }
def PermitsNobodyUptoSaid : Prop := permitsNobodyUptoRow.holds Tryd.pinned (OpenSpec.upto permitsNobodySpec)

/-- 'signatorylaw21.PermitsValue', WHERE WHAT IT READS IS OF BULK AT MOST 1048576: true; the input reads as it did. -/
def permitsValueUptoRow : OpenClaim := { program := "ytmdiebdplakccaadoor", sum := "97cd54e32b9ac23c84947da7e820a66ee09545d6e4c9d5b0274b15b03415dc0f", func := "signatory/signatorylaw21.PermitsValue", spec := "permitsValue", inPlace := ["internal/bytealg.IndexByteString"], unfollowed := true, recurses := true, named := ["signatory/policies.kinds"], loops := true, apart := false, laid := [("signatory/policies.kinds", laid_signatory_policies_kinds)], narrowed := true }
def PermitsValueUptoSaid : Prop := permitsValueUptoRow.holds Tryd.pinned (OpenSpec.upto permitsValueSpec)

end Rows
end Go.Proofs.YtmdiebdplakccaaDoor
