/-
  NARROWER THAN 'FOR EVERY INPUT', by the rows' own cells (each row's printed sentence says how): UnderwayDecideSpec: laid · UnderwayNeeded: laid · UnderwayLater: loops, laid · UnderwayForce: loops, laid · UnderwayMore: loops, laid.
  DERIVED. THE GIVEN ROWS OF THIS SEAT. 5 by the template 'for every input the law returns true; each argument reads behind the call as it read before'; 0 by the template 'total and deterministic' (their statements: YtjdhgaflenhljaaDoorTotals.lean).
  GIVEN WITH THE SEED: the statements are not yours to turn. If you find one false, say at which input.
  Laid BY PROGRAM, IN A SANDBOX (cutbox-rows.mjs): the forced cells as the released guide's own fill.sh prints them over the translation 7733335b24ef29ad… (all of the seat's roots in one cut). By AI agents, Wed Nov 11 2026. No macro, syntax, notation, axiom, sorry.
-/
import Derived.Test.YtjdhgaflenhljaaDoorChecked
import GoSem.Claim
import GoSem.ClaimJoined
import GoSem.ClaimMapViews
import Derived.JoinedTies
import Derived.KernelRfl
namespace Go.Proofs.YtjdhgaflenhljaaDoor
/- THE CELL 'sum', in the pinned program and in every row, IS THE sha256 OF THE DUMP (.gsa) THAT YtjdhgaflenhljaaDoorProg.lean LOADS. Nothing in Lean hashes anything: it is a label: what it is worth is what the hold of that sum in a sandbox is worth. -/
noncomputable def Tryd.pinned : Pinned := { name := "ytjdhgaflenhljaadoor", sum := "7733335b24ef29ad66592f5d9155378daf4973591daa39b3edc794d22e824bca", checked := Tryd.checked }
namespace Rows
def none {H : Type} : Left H := { results := [], args := [] }

/- WHAT THE LISTED PACKAGE-LEVEL VARIABLES READ AS WHEN THE CALL BEGINS. Each datum BY PROGRAM (the guide's laid-datum.mjs) off the statement by which the dump's own 'gosem.cut.vars' lays the variable. In a bare row this is a premise. The card (YtjdhgaflenhljaaDoorCards.lean) ties it to the program's text. -/
def laid_signatory_policies_kinds {H : Type} : DataW H := .iface "func table" (.agg [.iface "func" (.lit (.string [115, 105, 103, 110, 97, 116, 111, 114, 121, 47, 112, 111, 108, 105, 99, 105, 101, 115, 46, 107, 105, 110, 100, 115, 36, 49])), .iface "func" (.lit (.string [115, 105, 103, 110, 97, 116, 111, 114, 121, 47, 112, 111, 108, 105, 99, 105, 101, 115, 46, 107, 105, 110, 100, 115, 36, 50])), .iface "func" (.lit (.string [115, 105, 103, 110, 97, 116, 111, 114, 121, 47, 112, 111, 108, 105, 99, 105, 101, 115, 46, 107, 105, 110, 100, 115, 36, 51])), .iface "func" (.lit (.string [115, 105, 103, 110, 97, 116, 111, 114, 121, 47, 112, 111, 108, 105, 99, 105, 101, 115, 46, 107, 105, 110, 100, 115, 36, 52])), .iface "func" (.lit (.string [115, 105, 103, 110, 97, 116, 111, 114, 121, 47, 112, 111, 108, 105, 99, 105, 101, 115, 46, 107, 105, 110, 100, 115, 36, 53]))])

/-- 'signatorylaw27.UnderwayDecideSpec': WHATEVER THE INPUT: true; the input reads as it did. -/
def underwayDecideSpecSpec : ChangeSpec := { name := "underwayDecideSpec", fn := fun _ => fun
  | [d1, d2] => { results := [.lit (.bool true)], args := [d1, d2] }
  | _ => none }
def underwayDecideSpecRow : OpenClaim := { program := "ytjdhgaflenhljaadoor", sum := "7733335b24ef29ad66592f5d9155378daf4973591daa39b3edc794d22e824bca", func := "signatory/signatorylaw27.UnderwayDecideSpec", spec := "underwayDecideSpec", inPlace := ["internal/bytealg.IndexByteString"], unfollowed := true, recurses := true, named := ["signatory/policies.kinds"], apart := false, laid := [("signatory/policies.kinds", laid_signatory_policies_kinds)] }
def UnderwayDecideSpecSaid : Prop := underwayDecideSpecRow.holds Tryd.pinned (OpenSpec.ofChange underwayDecideSpecSpec)

/-- ITS FALSE NEIGHBOUR: 'it returns false'. Refute it at one input. -/
def underwayDecideSpecWrong : ChangeSpec := { name := "underwayDecideSpec", fn := fun _ => fun
  | [d1, d2] => { results := [.lit (.bool false)], args := [d1, d2] }
  | _ => none }
def UnderwayDecideSpecWrongFalsely : Prop := underwayDecideSpecRow.holds Tryd.pinned (OpenSpec.ofChange underwayDecideSpecWrong)

/-- 'signatorylaw27.UnderwayNeeded': WHATEVER THE INPUT: true; the input reads as it did. -/
def underwayNeededSpec : ChangeSpec := { name := "underwayNeeded", fn := fun _ => fun
  | [d1, d2, d3] => { results := [.lit (.bool true)], args := [d1, d2, d3] }
  | _ => none }
def underwayNeededRow : OpenClaim := { program := "ytjdhgaflenhljaadoor", sum := "7733335b24ef29ad66592f5d9155378daf4973591daa39b3edc794d22e824bca", func := "signatory/signatorylaw27.UnderwayNeeded", spec := "underwayNeeded", inPlace := ["internal/bytealg.IndexByteString"], unfollowed := true, recurses := true, named := ["signatory/policies.kinds"], apart := false, laid := [("signatory/policies.kinds", laid_signatory_policies_kinds)] }
def UnderwayNeededSaid : Prop := underwayNeededRow.holds Tryd.pinned (OpenSpec.ofChange underwayNeededSpec)

/-- ITS FALSE NEIGHBOUR: 'it returns false'. Refute it at one input. -/
def underwayNeededWrong : ChangeSpec := { name := "underwayNeeded", fn := fun _ => fun
  | [d1, d2, d3] => { results := [.lit (.bool false)], args := [d1, d2, d3] }
  | _ => none }
def UnderwayNeededWrongFalsely : Prop := underwayNeededRow.holds Tryd.pinned (OpenSpec.ofChange underwayNeededWrong)

/-- 'signatorylaw27.UnderwayLater': WHATEVER THE INPUT: true; the input reads as it did. -/
def underwayLaterSpec : ChangeSpec := { name := "underwayLater", fn := fun _ => fun
  | [d1, d2, d3, d4] => { results := [.lit (.bool true)], args := [d1, d2, d3, d4] }
  | _ => none }
def underwayLaterRow : OpenClaim := { program := "ytjdhgaflenhljaadoor", sum := "7733335b24ef29ad66592f5d9155378daf4973591daa39b3edc794d22e824bca", func := "signatory/signatorylaw27.UnderwayLater", spec := "underwayLater", inPlace := ["internal/bytealg.IndexByteString"], unfollowed := true, recurses := true, named := ["signatory/policies.kinds"], loops := true, apart := false, laid := [("signatory/policies.kinds", laid_signatory_policies_kinds)] }
def UnderwayLaterSaid : Prop := underwayLaterRow.holds Tryd.pinned (OpenSpec.ofChange underwayLaterSpec)

/-- ITS FALSE NEIGHBOUR: 'it returns false'. Refute it at one input. -/
def underwayLaterWrong : ChangeSpec := { name := "underwayLater", fn := fun _ => fun
  | [d1, d2, d3, d4] => { results := [.lit (.bool false)], args := [d1, d2, d3, d4] }
  | _ => none }
def UnderwayLaterWrongFalsely : Prop := underwayLaterRow.holds Tryd.pinned (OpenSpec.ofChange underwayLaterWrong)

/-- 'signatorylaw27.UnderwayForce': WHATEVER THE INPUT: true; the input reads as it did. -/
def underwayForceSpec : ChangeSpec := { name := "underwayForce", fn := fun _ => fun
  | [d1, d2, d3, d4, d5] => { results := [.lit (.bool true)], args := [d1, d2, d3, d4, d5] }
  | _ => none }
def underwayForceRow : OpenClaim := { program := "ytjdhgaflenhljaadoor", sum := "7733335b24ef29ad66592f5d9155378daf4973591daa39b3edc794d22e824bca", func := "signatory/signatorylaw27.UnderwayForce", spec := "underwayForce", inPlace := ["internal/bytealg.IndexByteString"], unfollowed := true, recurses := true, named := ["signatory/policies.kinds"], loops := true, apart := false, laid := [("signatory/policies.kinds", laid_signatory_policies_kinds)] }
def UnderwayForceSaid : Prop := underwayForceRow.holds Tryd.pinned (OpenSpec.ofChange underwayForceSpec)

/-- ITS FALSE NEIGHBOUR: 'it returns false'. Refute it at one input. -/
def underwayForceWrong : ChangeSpec := { name := "underwayForce", fn := fun _ => fun
  | [d1, d2, d3, d4, d5] => { results := [.lit (.bool false)], args := [d1, d2, d3, d4, d5] }
  | _ => none }
def UnderwayForceWrongFalsely : Prop := underwayForceRow.holds Tryd.pinned (OpenSpec.ofChange underwayForceWrong)

/-- 'signatorylaw27.UnderwayMore': WHATEVER THE INPUT: true; the input reads as it did. -/
def underwayMoreSpec : ChangeSpec := { name := "underwayMore", fn := fun _ => fun
  | [d1, d2, d3, d4, d5, d6, d7] => { results := [.lit (.bool true)], args := [d1, d2, d3, d4, d5, d6, d7] }
  | _ => none }
def underwayMoreRow : OpenClaim := { program := "ytjdhgaflenhljaadoor", sum := "7733335b24ef29ad66592f5d9155378daf4973591daa39b3edc794d22e824bca", func := "signatory/signatorylaw27.UnderwayMore", spec := "underwayMore", inPlace := ["internal/bytealg.IndexByteString"], unfollowed := true, recurses := true, named := ["signatory/policies.kinds"], loops := true, apart := false, laid := [("signatory/policies.kinds", laid_signatory_policies_kinds)] }
def UnderwayMoreSaid : Prop := underwayMoreRow.holds Tryd.pinned (OpenSpec.ofChange underwayMoreSpec)

/-- ITS FALSE NEIGHBOUR: 'it returns false'. Refute it at one input. -/
def underwayMoreWrong : ChangeSpec := { name := "underwayMore", fn := fun _ => fun
  | [d1, d2, d3, d4, d5, d6, d7] => { results := [.lit (.bool false)], args := [d1, d2, d3, d4, d5, d6, d7] }
  | _ => none }
def UnderwayMoreWrongFalsely : Prop := underwayMoreRow.holds Tryd.pinned (OpenSpec.ofChange underwayMoreWrong)

/- THE SECOND FORM. 'bulk': how many values and letters a reading holds, each counted each time it is reached (what is shared counts as often as it is met; a slice's spare places count too). A statement '..UptoSaid' is the law's where the arguments, and the package variables that the reading takes, are together of bulk at most 1048576: NARROWER than '..Said'. Prove '..Said' where nothing that the law and all that it calls make is longer than what came in: it says more and counts as full. Else prove '..UptoSaid'. A law counts once. -/
mutual
def uptoBulk {H : Type} : DataW H → Nat
  | .lit (.string bytes) => bytes.length + 1
  | .lit _ => 1
  | .nil => 1
  | .ptr d => uptoBulk d + 1
  | .slice elems spare => uptoBulkAll elems + uptoBulkAll spare + 1
  | .agg parts => uptoBulkAll parts + 1
  | .iface _ d => uptoBulk d + 1
  | .map entries => uptoBulkEntries entries + 1
  | .held _ => 1
def uptoBulkAll {H : Type} : List (DataW H) → Nat
  | [] => 0
  | d :: r => uptoBulk d + uptoBulkAll r
def uptoBulkEntries {H : Type} : List (Lit × DataW H) → Nat
  | [] => 0
  | x :: r => uptoBulkEntry x + uptoBulkEntries r
def uptoBulkEntry {H : Type} : Lit × DataW H → Nat
  | (.string bytes, d) => bytes.length + uptoBulk d + 1
  | (_, d) => uptoBulk d + 1
 end
def uptoSmall : (H : Type) → List (DataW H) → Bool := fun _ ds => decide (uptoBulkAll ds ≤ 1048576)
def OpenSpec.upto (s : _root_.Go.ChangeSpec) : _root_.Go.OpenSpec := { _root_.Go.OpenSpec.ofChange s with cond := some uptoSmall }

/-- 'signatorylaw27.UnderwayDecideSpec', WHERE WHAT IT READS IS OF BULK AT MOST 1048576: true; the input reads as it did. -/
def underwayDecideSpecUptoRow : OpenClaim := { program := "ytjdhgaflenhljaadoor", sum := "7733335b24ef29ad66592f5d9155378daf4973591daa39b3edc794d22e824bca", func := "signatory/signatorylaw27.UnderwayDecideSpec", spec := "underwayDecideSpec", inPlace := ["internal/bytealg.IndexByteString"], unfollowed := true, recurses := true, named := ["signatory/policies.kinds"], apart := false, laid := [("signatory/policies.kinds", laid_signatory_policies_kinds)], narrowed := true }
def UnderwayDecideSpecUptoSaid : Prop := underwayDecideSpecUptoRow.holds Tryd.pinned (OpenSpec.upto underwayDecideSpecSpec)

/-- 'signatorylaw27.UnderwayNeeded', WHERE WHAT IT READS IS OF BULK AT MOST 1048576: true; the input reads as it did. -/
def underwayNeededUptoRow : OpenClaim := { program := "ytjdhgaflenhljaadoor", sum := "7733335b24ef29ad66592f5d9155378daf4973591daa39b3edc794d22e824bca", func := "signatory/signatorylaw27.UnderwayNeeded", spec := "underwayNeeded", inPlace := ["internal/bytealg.IndexByteString"], unfollowed := true, recurses := true, named := ["signatory/policies.kinds"], apart := false, laid := [("signatory/policies.kinds", laid_signatory_policies_kinds)], narrowed := true }
def UnderwayNeededUptoSaid : Prop := underwayNeededUptoRow.holds Tryd.pinned (OpenSpec.upto underwayNeededSpec)

/-- 'signatorylaw27.UnderwayLater', WHERE WHAT IT READS IS OF BULK AT MOST 1048576: true; the input reads as it did. -/
def underwayLaterUptoRow : OpenClaim := { program := "ytjdhgaflenhljaadoor", sum := "7733335b24ef29ad66592f5d9155378daf4973591daa39b3edc794d22e824bca", func := "signatory/signatorylaw27.UnderwayLater", spec := "underwayLater", inPlace := ["internal/bytealg.IndexByteString"], unfollowed := true, recurses := true, named := ["signatory/policies.kinds"], loops := true, apart := false, laid := [("signatory/policies.kinds", laid_signatory_policies_kinds)], narrowed := true }
def UnderwayLaterUptoSaid : Prop := underwayLaterUptoRow.holds Tryd.pinned (OpenSpec.upto underwayLaterSpec)

/-- 'signatorylaw27.UnderwayForce', WHERE WHAT IT READS IS OF BULK AT MOST 1048576: true; the input reads as it did. -/
def underwayForceUptoRow : OpenClaim := { program := "ytjdhgaflenhljaadoor", sum := "7733335b24ef29ad66592f5d9155378daf4973591daa39b3edc794d22e824bca", func := "signatory/signatorylaw27.UnderwayForce", spec := "underwayForce", inPlace := ["internal/bytealg.IndexByteString"], unfollowed := true, recurses := true, named := ["signatory/policies.kinds"], loops := true, apart := false, laid := [("signatory/policies.kinds", laid_signatory_policies_kinds)], narrowed := true }
def UnderwayForceUptoSaid : Prop := underwayForceUptoRow.holds Tryd.pinned (OpenSpec.upto underwayForceSpec)

/-- 'signatorylaw27.UnderwayMore', WHERE WHAT IT READS IS OF BULK AT MOST 1048576: true; the input reads as it did. -/
def underwayMoreUptoRow : OpenClaim := { program := "ytjdhgaflenhljaadoor", sum := "7733335b24ef29ad66592f5d9155378daf4973591daa39b3edc794d22e824bca", func := "signatory/signatorylaw27.UnderwayMore", spec := "underwayMore", inPlace := ["internal/bytealg.IndexByteString"], unfollowed := true, recurses := true, named := ["signatory/policies.kinds"], loops := true, apart := false, laid := [("signatory/policies.kinds", laid_signatory_policies_kinds)], narrowed := true }
def UnderwayMoreUptoSaid : Prop := underwayMoreUptoRow.holds Tryd.pinned (OpenSpec.upto underwayMoreSpec)

end Rows
end Go.Proofs.YtjdhgaflenhljaaDoor
