/-
  NARROWER THAN 'FOR EVERY INPUT', by the rows' own cells (each row's printed sentence says how): FormulasMonotone: loops · FormulasDual: loops · FormulasCounted: loops.
  DERIVED. THE GIVEN ROWS OF THIS SEAT. 3 by the template 'for every input the law returns true; each argument reads behind the call as it read before'; 0 by the template 'total and deterministic' (their statements: YtkcpnmphlanocaaTotals.lean).
  GIVEN WITH THE SEED: the statements are not yours to turn. If you find one false, say at which input.
  Laid BY PROGRAM, IN A SANDBOX (cutbox-rows.mjs): the forced cells as the released guide's own fill.sh prints them over the translation 71c8bf09eedc66d2… (all of the seat's roots in one cut). By AI agents, Wed Nov 11 2026. No macro, syntax, notation, axiom, sorry.
-/
import Derived.Test.YtkcpnmphlanocaaChecked
import GoSem.Claim
import GoSem.ClaimJoined
import GoSem.ClaimMapViews
import Derived.JoinedTies
import Derived.KernelRfl
namespace Go.Proofs.Ytkcpnmphlanocaa
/- THE CELL 'sum', in the pinned program and in every row, IS THE sha256 OF THE DUMP (.gsa) THAT YtkcpnmphlanocaaProg.lean LOADS. Nothing in Lean hashes anything: it is a label: what it is worth is what the hold of that sum in a sandbox is worth. -/
noncomputable def Try.pinned : Pinned := { name := "ytkcpnmphlanocaa", sum := "71c8bf09eedc66d2ae86b4ea3abebde5b6a43c5412d0a4b5a2b8343efff86d35", checked := Try.checked }
namespace Rows
def none {H : Type} : Left H := { results := [], args := [] }

/-- 'signatorylaw22.FormulasMonotone': WHATEVER THE INPUT: true; the input reads as it did. -/
def formulasMonotoneSpec : ChangeSpec := { name := "formulasMonotone", fn := fun _ => fun
  | [d1, d2, d3] => { results := [.lit (.bool true)], args := [d1, d2, d3] }
  | _ => none }
def formulasMonotoneRow : OpenClaim := { program := "ytkcpnmphlanocaa", sum := "71c8bf09eedc66d2ae86b4ea3abebde5b6a43c5412d0a4b5a2b8343efff86d35", func := "signatory/signatorylaw22.FormulasMonotone", spec := "formulasMonotone", unfollowed := true, recurses := true, loops := true, apart := false }
def FormulasMonotoneSaid : Prop := formulasMonotoneRow.holds Try.pinned (OpenSpec.ofChange formulasMonotoneSpec)

/-- ITS FALSE NEIGHBOUR: 'it returns false'. Refute it at one input. -/
def formulasMonotoneWrong : ChangeSpec := { name := "formulasMonotone", fn := fun _ => fun
  | [d1, d2, d3] => { results := [.lit (.bool false)], args := [d1, d2, d3] }
  | _ => none }
def FormulasMonotoneWrongFalsely : Prop := formulasMonotoneRow.holds Try.pinned (OpenSpec.ofChange formulasMonotoneWrong)

/-- 'signatorylaw22.FormulasDual': WHATEVER THE INPUT: true; the input reads as it did. -/
def formulasDualSpec : ChangeSpec := { name := "formulasDual", fn := fun _ => fun
  | [d1, d2] => { results := [.lit (.bool true)], args := [d1, d2] }
  | _ => none }
def formulasDualRow : OpenClaim := { program := "ytkcpnmphlanocaa", sum := "71c8bf09eedc66d2ae86b4ea3abebde5b6a43c5412d0a4b5a2b8343efff86d35", func := "signatory/signatorylaw22.FormulasDual", spec := "formulasDual", unfollowed := true, recurses := true, loops := true, apart := false }
def FormulasDualSaid : Prop := formulasDualRow.holds Try.pinned (OpenSpec.ofChange formulasDualSpec)

/-- ITS FALSE NEIGHBOUR: 'it returns false'. Refute it at one input. -/
def formulasDualWrong : ChangeSpec := { name := "formulasDual", fn := fun _ => fun
  | [d1, d2] => { results := [.lit (.bool false)], args := [d1, d2] }
  | _ => none }
def FormulasDualWrongFalsely : Prop := formulasDualRow.holds Try.pinned (OpenSpec.ofChange formulasDualWrong)

/-- 'signatorylaw22.FormulasCounted': WHATEVER THE INPUT: true; the input reads as it did. -/
def formulasCountedSpec : ChangeSpec := { name := "formulasCounted", fn := fun _ => fun
  | [d1, d2, d3] => { results := [.lit (.bool true)], args := [d1, d2, d3] }
  | _ => none }
def formulasCountedRow : OpenClaim := { program := "ytkcpnmphlanocaa", sum := "71c8bf09eedc66d2ae86b4ea3abebde5b6a43c5412d0a4b5a2b8343efff86d35", func := "signatory/signatorylaw22.FormulasCounted", spec := "formulasCounted", unfollowed := true, recurses := true, loops := true, apart := false }
def FormulasCountedSaid : Prop := formulasCountedRow.holds Try.pinned (OpenSpec.ofChange formulasCountedSpec)

/-- ITS FALSE NEIGHBOUR: 'it returns false'. Refute it at one input. -/
def formulasCountedWrong : ChangeSpec := { name := "formulasCounted", fn := fun _ => fun
  | [d1, d2, d3] => { results := [.lit (.bool false)], args := [d1, d2, d3] }
  | _ => none }
def FormulasCountedWrongFalsely : Prop := formulasCountedRow.holds Try.pinned (OpenSpec.ofChange formulasCountedWrong)

/- THE SECOND FORM. 'bulk': how many values and letters a reading holds, each counted each time it is reached (what is shared counts as often as it is met; a slice's spare places count too). A statement '..UptoSaid' is the law's where the arguments, and the package variables that the reading takes, are together of bulk at most 1048576: NARROWER than '..Said'. Prove '..Said' where nothing that the law and all that it calls make is longer than what came in: it says more and counts as full. Else prove '..UptoSaid'. A law counts once. -/
mutual
def uptoBulk {H : Type} : DataW H → Nat
  | .lit (.string bytes) => bytes.length + 1
  | .lit _ => 1
  | .nil => 1
  | .ptr d => uptoBulk d + 1
  | .slice elems spare => uptoBulkAll elems + uptoBulkAll spare + 1
  | .agg parts => uptoBulkAll parts + 1
  | .iface _ d => uptoBulk d + 1
  | .map entries => uptoBulkEntries entries + 1
  | .held _ => 1
def uptoBulkAll {H : Type} : List (DataW H) → Nat
  | [] => 0
  | d :: r => uptoBulk d + uptoBulkAll r
def uptoBulkEntries {H : Type} : List (Lit × DataW H) → Nat
  | [] => 0
  | x :: r => uptoBulkEntry x + uptoBulkEntries r
def uptoBulkEntry {H : Type} : Lit × DataW H → Nat
  | (.string bytes, d) => bytes.length + uptoBulk d + 1
  | (_, d) => uptoBulk d + 1
 end
def uptoSmall : (H : Type) → List (DataW H) → Bool := fun _ ds => decide (uptoBulkAll ds ≤ 1048576)
def OpenSpec.upto (s : _root_.Go.ChangeSpec) : _root_.Go.OpenSpec := { _root_.Go.OpenSpec.ofChange s with cond := some uptoSmall }

/-- 'signatorylaw22.FormulasMonotone', WHERE WHAT IT READS IS OF BULK AT MOST 1048576: true; the input reads as it did. -/
def formulasMonotoneUptoRow : OpenClaim := { program := "ytkcpnmphlanocaa", sum := "71c8bf09eedc66d2ae86b4ea3abebde5b6a43c5412d0a4b5a2b8343efff86d35", func := "signatory/signatorylaw22.FormulasMonotone", spec := "formulasMonotone", unfollowed := true, recurses := true, loops := true, apart := false, narrowed := true }
def FormulasMonotoneUptoSaid : Prop := formulasMonotoneUptoRow.holds Try.pinned (OpenSpec.upto formulasMonotoneSpec)

/-- 'signatorylaw22.FormulasDual', WHERE WHAT IT READS IS OF BULK AT MOST 1048576: true; the input reads as it did. -/
def formulasDualUptoRow : OpenClaim := { program := "ytkcpnmphlanocaa", sum := "71c8bf09eedc66d2ae86b4ea3abebde5b6a43c5412d0a4b5a2b8343efff86d35", func := "signatory/signatorylaw22.FormulasDual", spec := "formulasDual", unfollowed := true, recurses := true, loops := true, apart := false, narrowed := true }
def FormulasDualUptoSaid : Prop := formulasDualUptoRow.holds Try.pinned (OpenSpec.upto formulasDualSpec)

/-- 'signatorylaw22.FormulasCounted', WHERE WHAT IT READS IS OF BULK AT MOST 1048576: true; the input reads as it did. -/
def formulasCountedUptoRow : OpenClaim := { program := "ytkcpnmphlanocaa", sum := "71c8bf09eedc66d2ae86b4ea3abebde5b6a43c5412d0a4b5a2b8343efff86d35", func := "signatory/signatorylaw22.FormulasCounted", spec := "formulasCounted", unfollowed := true, recurses := true, loops := true, apart := false, narrowed := true }
def FormulasCountedUptoSaid : Prop := formulasCountedUptoRow.holds Try.pinned (OpenSpec.upto formulasCountedSpec)

end Rows
end Go.Proofs.Ytkcpnmphlanocaa
