/-
  NARROWER THAN 'FOR EVERY INPUT', by the rows' own cells (each row's printed sentence says how): LivingSpec: loops · LivingMarginSpec: loops · LivingOrDead: loops · LivingMargin: loops · LivingMore: loops · MinimalSpec: loops · MinimalAgreeSpec: loops · MinimalBoth: loops · MinimalExchanged: loops · MinimalExactly: loops · MinimalSmallest: loops.
  DERIVED. THE GIVEN ROWS OF THIS SEAT. 11 by the template 'for every input the law returns true; each argument reads behind the call as it read before'; 0 by the template 'total and deterministic' (their statements: YtnioapinljedmaaTotals.lean).
  GIVEN WITH THE SEED: the statements are not yours to turn. If you find one false, say at which input.
  Laid BY PROGRAM, IN A SANDBOX (cutbox-rows.mjs): the forced cells as the released guide's own fill.sh prints them over the translation f2822e93fef5b88d… (all of the seat's roots in one cut). By AI agents, Wed Nov 11 2026. No macro, syntax, notation, axiom, sorry.
-/
import Derived.Test.YtnioapinljedmaaChecked
import GoSem.Claim
import GoSem.ClaimJoined
import GoSem.ClaimMapViews
import Derived.JoinedTies
import Derived.KernelRfl
namespace Go.Proofs.Ytnioapinljedmaa
/- THE CELL 'sum', in the pinned program and in every row, IS THE sha256 OF THE DUMP (.gsa) THAT YtnioapinljedmaaProg.lean LOADS. Nothing in Lean hashes anything: it is a label: what it is worth is what the hold of that sum in a sandbox is worth. -/
noncomputable def Try.pinned : Pinned := { name := "ytnioapinljedmaa", sum := "f2822e93fef5b88d1f8c681064c617ee10818f4aafd86f9a0a7ebe3fdc0d421b", checked := Try.checked }
namespace Rows
def none {H : Type} : Left H := { results := [], args := [] }

/-- 'signatorylaw51.LivingSpec': WHATEVER THE INPUT: true; the input reads as it did. -/
def livingSpecSpec : ChangeSpec := { name := "livingSpec", fn := fun _ => fun
  | [d1, d2] => { results := [.lit (.bool true)], args := [d1, d2] }
  | _ => none }
def livingSpecRow : OpenClaim := { program := "ytnioapinljedmaa", sum := "f2822e93fef5b88d1f8c681064c617ee10818f4aafd86f9a0a7ebe3fdc0d421b", func := "signatory/signatorylaw51.LivingSpec", spec := "livingSpec", unfollowed := true, recurses := true, loops := true, apart := false }
def LivingSpecSaid : Prop := livingSpecRow.holds Try.pinned (OpenSpec.ofChange livingSpecSpec)

/-- ITS FALSE NEIGHBOUR: 'it returns false'. Refute it at one input. -/
def livingSpecWrong : ChangeSpec := { name := "livingSpec", fn := fun _ => fun
  | [d1, d2] => { results := [.lit (.bool false)], args := [d1, d2] }
  | _ => none }
def LivingSpecWrongFalsely : Prop := livingSpecRow.holds Try.pinned (OpenSpec.ofChange livingSpecWrong)

/-- 'signatorylaw51.LivingMarginSpec': WHATEVER THE INPUT: true; the input reads as it did. -/
def livingMarginSpecSpec : ChangeSpec := { name := "livingMarginSpec", fn := fun _ => fun
  | [d1, d2] => { results := [.lit (.bool true)], args := [d1, d2] }
  | _ => none }
def livingMarginSpecRow : OpenClaim := { program := "ytnioapinljedmaa", sum := "f2822e93fef5b88d1f8c681064c617ee10818f4aafd86f9a0a7ebe3fdc0d421b", func := "signatory/signatorylaw51.LivingMarginSpec", spec := "livingMarginSpec", unfollowed := true, recurses := true, loops := true, apart := false }
def LivingMarginSpecSaid : Prop := livingMarginSpecRow.holds Try.pinned (OpenSpec.ofChange livingMarginSpecSpec)

/-- ITS FALSE NEIGHBOUR: 'it returns false'. Refute it at one input. -/
def livingMarginSpecWrong : ChangeSpec := { name := "livingMarginSpec", fn := fun _ => fun
  | [d1, d2] => { results := [.lit (.bool false)], args := [d1, d2] }
  | _ => none }
def LivingMarginSpecWrongFalsely : Prop := livingMarginSpecRow.holds Try.pinned (OpenSpec.ofChange livingMarginSpecWrong)

/-- 'signatorylaw51.LivingOrDead': WHATEVER THE INPUT: true; the input reads as it did. -/
def livingOrDeadSpec : ChangeSpec := { name := "livingOrDead", fn := fun _ => fun
  | [d1, d2] => { results := [.lit (.bool true)], args := [d1, d2] }
  | _ => none }
def livingOrDeadRow : OpenClaim := { program := "ytnioapinljedmaa", sum := "f2822e93fef5b88d1f8c681064c617ee10818f4aafd86f9a0a7ebe3fdc0d421b", func := "signatory/signatorylaw51.LivingOrDead", spec := "livingOrDead", unfollowed := true, recurses := true, loops := true, apart := false }
def LivingOrDeadSaid : Prop := livingOrDeadRow.holds Try.pinned (OpenSpec.ofChange livingOrDeadSpec)

/-- ITS FALSE NEIGHBOUR: 'it returns false'. Refute it at one input. -/
def livingOrDeadWrong : ChangeSpec := { name := "livingOrDead", fn := fun _ => fun
  | [d1, d2] => { results := [.lit (.bool false)], args := [d1, d2] }
  | _ => none }
def LivingOrDeadWrongFalsely : Prop := livingOrDeadRow.holds Try.pinned (OpenSpec.ofChange livingOrDeadWrong)

/-- 'signatorylaw51.LivingMargin': WHATEVER THE INPUT: true; the input reads as it did. -/
def livingMarginSpec : ChangeSpec := { name := "livingMargin", fn := fun _ => fun
  | [d1, d2, d3] => { results := [.lit (.bool true)], args := [d1, d2, d3] }
  | _ => none }
def livingMarginRow : OpenClaim := { program := "ytnioapinljedmaa", sum := "f2822e93fef5b88d1f8c681064c617ee10818f4aafd86f9a0a7ebe3fdc0d421b", func := "signatory/signatorylaw51.LivingMargin", spec := "livingMargin", unfollowed := true, recurses := true, loops := true, apart := false }
def LivingMarginSaid : Prop := livingMarginRow.holds Try.pinned (OpenSpec.ofChange livingMarginSpec)

/-- ITS FALSE NEIGHBOUR: 'it returns false'. Refute it at one input. -/
def livingMarginWrong : ChangeSpec := { name := "livingMargin", fn := fun _ => fun
  | [d1, d2, d3] => { results := [.lit (.bool false)], args := [d1, d2, d3] }
  | _ => none }
def LivingMarginWrongFalsely : Prop := livingMarginRow.holds Try.pinned (OpenSpec.ofChange livingMarginWrong)

/-- 'signatorylaw51.LivingMore': WHATEVER THE INPUT: true; the input reads as it did. -/
def livingMoreSpec : ChangeSpec := { name := "livingMore", fn := fun _ => fun
  | [d1, d2, d3] => { results := [.lit (.bool true)], args := [d1, d2, d3] }
  | _ => none }
def livingMoreRow : OpenClaim := { program := "ytnioapinljedmaa", sum := "f2822e93fef5b88d1f8c681064c617ee10818f4aafd86f9a0a7ebe3fdc0d421b", func := "signatory/signatorylaw51.LivingMore", spec := "livingMore", unfollowed := true, recurses := true, loops := true, apart := false }
def LivingMoreSaid : Prop := livingMoreRow.holds Try.pinned (OpenSpec.ofChange livingMoreSpec)

/-- ITS FALSE NEIGHBOUR: 'it returns false'. Refute it at one input. -/
def livingMoreWrong : ChangeSpec := { name := "livingMore", fn := fun _ => fun
  | [d1, d2, d3] => { results := [.lit (.bool false)], args := [d1, d2, d3] }
  | _ => none }
def LivingMoreWrongFalsely : Prop := livingMoreRow.holds Try.pinned (OpenSpec.ofChange livingMoreWrong)

/-- 'signatorylaw24.MinimalSpec': WHATEVER THE INPUT: true; the input reads as it did. -/
def minimalSpecSpec : ChangeSpec := { name := "minimalSpec", fn := fun _ => fun
  | [d] => { results := [.lit (.bool true)], args := [d] }
  | _ => none }
def minimalSpecRow : OpenClaim := { program := "ytnioapinljedmaa", sum := "f2822e93fef5b88d1f8c681064c617ee10818f4aafd86f9a0a7ebe3fdc0d421b", func := "signatory/signatorylaw24.MinimalSpec", spec := "minimalSpec", unfollowed := true, recurses := true, loops := true, apart := false }
def MinimalSpecSaid : Prop := minimalSpecRow.holds Try.pinned (OpenSpec.ofChange minimalSpecSpec)

/-- ITS FALSE NEIGHBOUR: 'it returns false'. Refute it at one input. -/
def minimalSpecWrong : ChangeSpec := { name := "minimalSpec", fn := fun _ => fun
  | [d] => { results := [.lit (.bool false)], args := [d] }
  | _ => none }
def MinimalSpecWrongFalsely : Prop := minimalSpecRow.holds Try.pinned (OpenSpec.ofChange minimalSpecWrong)

/-- 'signatorylaw24.MinimalAgreeSpec': WHATEVER THE INPUT: true; the input reads as it did. -/
def minimalAgreeSpecSpec : ChangeSpec := { name := "minimalAgreeSpec", fn := fun _ => fun
  | [d1, d2, d3] => { results := [.lit (.bool true)], args := [d1, d2, d3] }
  | _ => none }
def minimalAgreeSpecRow : OpenClaim := { program := "ytnioapinljedmaa", sum := "f2822e93fef5b88d1f8c681064c617ee10818f4aafd86f9a0a7ebe3fdc0d421b", func := "signatory/signatorylaw24.MinimalAgreeSpec", spec := "minimalAgreeSpec", unfollowed := true, recurses := true, loops := true, apart := false }
def MinimalAgreeSpecSaid : Prop := minimalAgreeSpecRow.holds Try.pinned (OpenSpec.ofChange minimalAgreeSpecSpec)

/-- ITS FALSE NEIGHBOUR: 'it returns false'. Refute it at one input. -/
def minimalAgreeSpecWrong : ChangeSpec := { name := "minimalAgreeSpec", fn := fun _ => fun
  | [d1, d2, d3] => { results := [.lit (.bool false)], args := [d1, d2, d3] }
  | _ => none }
def MinimalAgreeSpecWrongFalsely : Prop := minimalAgreeSpecRow.holds Try.pinned (OpenSpec.ofChange minimalAgreeSpecWrong)

/-- 'signatorylaw24.MinimalBoth': WHATEVER THE INPUT: true; the input reads as it did. -/
def minimalBothSpec : ChangeSpec := { name := "minimalBoth", fn := fun _ => fun
  | [d1, d2, d3] => { results := [.lit (.bool true)], args := [d1, d2, d3] }
  | _ => none }
def minimalBothRow : OpenClaim := { program := "ytnioapinljedmaa", sum := "f2822e93fef5b88d1f8c681064c617ee10818f4aafd86f9a0a7ebe3fdc0d421b", func := "signatory/signatorylaw24.MinimalBoth", spec := "minimalBoth", unfollowed := true, recurses := true, loops := true, apart := false }
def MinimalBothSaid : Prop := minimalBothRow.holds Try.pinned (OpenSpec.ofChange minimalBothSpec)

/-- ITS FALSE NEIGHBOUR: 'it returns false'. Refute it at one input. -/
def minimalBothWrong : ChangeSpec := { name := "minimalBoth", fn := fun _ => fun
  | [d1, d2, d3] => { results := [.lit (.bool false)], args := [d1, d2, d3] }
  | _ => none }
def MinimalBothWrongFalsely : Prop := minimalBothRow.holds Try.pinned (OpenSpec.ofChange minimalBothWrong)

/-- 'signatorylaw24.MinimalExchanged': WHATEVER THE INPUT: true; the input reads as it did. -/
def minimalExchangedSpec : ChangeSpec := { name := "minimalExchanged", fn := fun _ => fun
  | [d1, d2, d3] => { results := [.lit (.bool true)], args := [d1, d2, d3] }
  | _ => none }
def minimalExchangedRow : OpenClaim := { program := "ytnioapinljedmaa", sum := "f2822e93fef5b88d1f8c681064c617ee10818f4aafd86f9a0a7ebe3fdc0d421b", func := "signatory/signatorylaw24.MinimalExchanged", spec := "minimalExchanged", unfollowed := true, recurses := true, loops := true, apart := false }
def MinimalExchangedSaid : Prop := minimalExchangedRow.holds Try.pinned (OpenSpec.ofChange minimalExchangedSpec)

/-- ITS FALSE NEIGHBOUR: 'it returns false'. Refute it at one input. -/
def minimalExchangedWrong : ChangeSpec := { name := "minimalExchanged", fn := fun _ => fun
  | [d1, d2, d3] => { results := [.lit (.bool false)], args := [d1, d2, d3] }
  | _ => none }
def MinimalExchangedWrongFalsely : Prop := minimalExchangedRow.holds Try.pinned (OpenSpec.ofChange minimalExchangedWrong)

/-- 'signatorylaw24.MinimalExactly': WHATEVER THE INPUT: true; the input reads as it did. -/
def minimalExactlySpec : ChangeSpec := { name := "minimalExactly", fn := fun _ => fun
  | [d1, d2] => { results := [.lit (.bool true)], args := [d1, d2] }
  | _ => none }
def minimalExactlyRow : OpenClaim := { program := "ytnioapinljedmaa", sum := "f2822e93fef5b88d1f8c681064c617ee10818f4aafd86f9a0a7ebe3fdc0d421b", func := "signatory/signatorylaw24.MinimalExactly", spec := "minimalExactly", unfollowed := true, recurses := true, loops := true, apart := false }
def MinimalExactlySaid : Prop := minimalExactlyRow.holds Try.pinned (OpenSpec.ofChange minimalExactlySpec)

/-- ITS FALSE NEIGHBOUR: 'it returns false'. Refute it at one input. -/
def minimalExactlyWrong : ChangeSpec := { name := "minimalExactly", fn := fun _ => fun
  | [d1, d2] => { results := [.lit (.bool false)], args := [d1, d2] }
  | _ => none }
def MinimalExactlyWrongFalsely : Prop := minimalExactlyRow.holds Try.pinned (OpenSpec.ofChange minimalExactlyWrong)

/-- 'signatorylaw24.MinimalSmallest': WHATEVER THE INPUT: true; the input reads as it did. -/
def minimalSmallestSpec : ChangeSpec := { name := "minimalSmallest", fn := fun _ => fun
  | [d] => { results := [.lit (.bool true)], args := [d] }
  | _ => none }
def minimalSmallestRow : OpenClaim := { program := "ytnioapinljedmaa", sum := "f2822e93fef5b88d1f8c681064c617ee10818f4aafd86f9a0a7ebe3fdc0d421b", func := "signatory/signatorylaw24.MinimalSmallest", spec := "minimalSmallest", unfollowed := true, recurses := true, loops := true, apart := false }
def MinimalSmallestSaid : Prop := minimalSmallestRow.holds Try.pinned (OpenSpec.ofChange minimalSmallestSpec)

/-- ITS FALSE NEIGHBOUR: 'it returns false'. Refute it at one input. -/
def minimalSmallestWrong : ChangeSpec := { name := "minimalSmallest", fn := fun _ => fun
  | [d] => { results := [.lit (.bool false)], args := [d] }
  | _ => none }
def MinimalSmallestWrongFalsely : Prop := minimalSmallestRow.holds Try.pinned (OpenSpec.ofChange minimalSmallestWrong)

/- THE SECOND FORM. 'bulk': how many values and letters a reading holds, each counted each time it is reached (what is shared counts as often as it is met; a slice's spare places count too). A statement '..UptoSaid' is the law's where the arguments, and the package variables that the reading takes, are together of bulk at most 1048576: NARROWER than '..Said'. Prove '..Said' where nothing that the law and all that it calls make is longer than what came in: it says more and counts as full. Else prove '..UptoSaid'. A law counts once. -/
mutual
def uptoBulk {H : Type} : DataW H → Nat
  | .lit (.string bytes) => bytes.length + 1
  | .lit _ => 1
  | .nil => 1
  | .ptr d => uptoBulk d + 1
  | .slice elems spare => uptoBulkAll elems + uptoBulkAll spare + 1
  | .agg parts => uptoBulkAll parts + 1
  | .iface _ d => uptoBulk d + 1
  | .map entries => uptoBulkEntries entries + 1
  | .held _ => 1
def uptoBulkAll {H : Type} : List (DataW H) → Nat
  | [] => 0
  | d :: r => uptoBulk d + uptoBulkAll r
def uptoBulkEntries {H : Type} : List (Lit × DataW H) → Nat
  | [] => 0
  | x :: r => uptoBulkEntry x + uptoBulkEntries r
def uptoBulkEntry {H : Type} : Lit × DataW H → Nat
  | (.string bytes, d) => bytes.length + uptoBulk d + 1
  | (_, d) => uptoBulk d + 1
 end
def uptoSmall : (H : Type) → List (DataW H) → Bool := fun _ ds => decide (uptoBulkAll ds ≤ 1048576)
def OpenSpec.upto (s : _root_.Go.ChangeSpec) : _root_.Go.OpenSpec := { _root_.Go.OpenSpec.ofChange s with cond := some uptoSmall }

/-- 'signatorylaw51.LivingSpec', WHERE WHAT IT READS IS OF BULK AT MOST 1048576: true; the input reads as it did. -/
def livingSpecUptoRow : OpenClaim := { program := "ytnioapinljedmaa", sum := "f2822e93fef5b88d1f8c681064c617ee10818f4aafd86f9a0a7ebe3fdc0d421b", func := "signatory/signatorylaw51.LivingSpec", spec := "livingSpec", unfollowed := true, recurses := true, loops := true, apart := false, narrowed := true }
def LivingSpecUptoSaid : Prop := livingSpecUptoRow.holds Try.pinned (OpenSpec.upto livingSpecSpec)

/-- 'signatorylaw51.LivingMarginSpec', WHERE WHAT IT READS IS OF BULK AT MOST 1048576: true; the input reads as it did. -/
def livingMarginSpecUptoRow : OpenClaim := { program := "ytnioapinljedmaa", sum := "f2822e93fef5b88d1f8c681064c617ee10818f4aafd86f9a0a7ebe3fdc0d421b", func := "signatory/signatorylaw51.LivingMarginSpec", spec := "livingMarginSpec", unfollowed := true, recurses := true, loops := true, apart := false, narrowed := true }
def LivingMarginSpecUptoSaid : Prop := livingMarginSpecUptoRow.holds Try.pinned (OpenSpec.upto livingMarginSpecSpec)

/-- 'signatorylaw51.LivingOrDead', WHERE WHAT IT READS IS OF BULK AT MOST 1048576: true; the input reads as it did. -/
def livingOrDeadUptoRow : OpenClaim := { program := "ytnioapinljedmaa", sum := "f2822e93fef5b88d1f8c681064c617ee10818f4aafd86f9a0a7ebe3fdc0d421b", func := "signatory/signatorylaw51.LivingOrDead", spec := "livingOrDead", unfollowed := true, recurses := true, loops := true, apart := false, narrowed := true }
def LivingOrDeadUptoSaid : Prop := livingOrDeadUptoRow.holds Try.pinned (OpenSpec.upto livingOrDeadSpec)

/-- 'signatorylaw51.LivingMargin', WHERE WHAT IT READS IS OF BULK AT MOST 1048576: true; the input reads as it did. -/
def livingMarginUptoRow : OpenClaim := { program := "ytnioapinljedmaa", sum := "f2822e93fef5b88d1f8c681064c617ee10818f4aafd86f9a0a7ebe3fdc0d421b", func := "signatory/signatorylaw51.LivingMargin", spec := "livingMargin", unfollowed := true, recurses := true, loops := true, apart := false, narrowed := true }
def LivingMarginUptoSaid : Prop := livingMarginUptoRow.holds Try.pinned (OpenSpec.upto livingMarginSpec)

/-- 'signatorylaw51.LivingMore', WHERE WHAT IT READS IS OF BULK AT MOST 1048576: true; the input reads as it did. -/
def livingMoreUptoRow : OpenClaim := { program := "ytnioapinljedmaa", sum := "f2822e93fef5b88d1f8c681064c617ee10818f4aafd86f9a0a7ebe3fdc0d421b", func := "signatory/signatorylaw51.LivingMore", spec := "livingMore", unfollowed := true, recurses := true, loops := true, apart := false, narrowed := true }
def LivingMoreUptoSaid : Prop := livingMoreUptoRow.holds Try.pinned (OpenSpec.upto livingMoreSpec)

/-- 'signatorylaw24.MinimalSpec', WHERE WHAT IT READS IS OF BULK AT MOST 1048576: true; the input reads as it did. -/
def minimalSpecUptoRow : OpenClaim := { program := "ytnioapinljedmaa", sum := "f2822e93fef5b88d1f8c681064c617ee10818f4aafd86f9a0a7ebe3fdc0d421b", func := "signatory/signatorylaw24.MinimalSpec", spec := "minimalSpec", unfollowed := true, recurses := true, loops := true, apart := false, narrowed := true }
def MinimalSpecUptoSaid : Prop := minimalSpecUptoRow.holds Try.pinned (OpenSpec.upto minimalSpecSpec)

/-- 'signatorylaw24.MinimalAgreeSpec', WHERE WHAT IT READS IS OF BULK AT MOST 1048576: true; the input reads as it did. -/
def minimalAgreeSpecUptoRow : OpenClaim := { program := "ytnioapinljedmaa", sum := "f2822e93fef5b88d1f8c681064c617ee10818f4aafd86f9a0a7ebe3fdc0d421b", func := "signatory/signatorylaw24.MinimalAgreeSpec", spec := "minimalAgreeSpec", unfollowed := true, recurses := true, loops := true, apart := false, narrowed := true }
def MinimalAgreeSpecUptoSaid : Prop := minimalAgreeSpecUptoRow.holds Try.pinned (OpenSpec.upto minimalAgreeSpecSpec)

/-- 'signatorylaw24.MinimalBoth', WHERE WHAT IT READS IS OF BULK AT MOST 1048576: true; the input reads as it did. -/
def minimalBothUptoRow : OpenClaim := { program := "ytnioapinljedmaa", sum := "f2822e93fef5b88d1f8c681064c617ee10818f4aafd86f9a0a7ebe3fdc0d421b", func := "signatory/signatorylaw24.MinimalBoth", spec := "minimalBoth", unfollowed := true, recurses := true, loops := true, apart := false, narrowed := true }
def MinimalBothUptoSaid : Prop := minimalBothUptoRow.holds Try.pinned (OpenSpec.upto minimalBothSpec)

/-- 'signatorylaw24.MinimalExchanged', WHERE WHAT IT READS IS OF BULK AT MOST 1048576: true; the input reads as it did. -/
def minimalExchangedUptoRow : OpenClaim := { program := "ytnioapinljedmaa", sum := "f2822e93fef5b88d1f8c681064c617ee10818f4aafd86f9a0a7ebe3fdc0d421b", func := "signatory/signatorylaw24.MinimalExchanged", spec := "minimalExchanged", unfollowed := true, recurses := true, loops := true, apart := false, narrowed := true }
def MinimalExchangedUptoSaid : Prop := minimalExchangedUptoRow.holds Try.pinned (OpenSpec.upto minimalExchangedSpec)

/-- 'signatorylaw24.MinimalExactly', WHERE WHAT IT READS IS OF BULK AT MOST 1048576: true; the input reads as it did. -/
def minimalExactlyUptoRow : OpenClaim := { program := "ytnioapinljedmaa", sum := "f2822e93fef5b88d1f8c681064c617ee10818f4aafd86f9a0a7ebe3fdc0d421b", func := "signatory/signatorylaw24.MinimalExactly", spec := "minimalExactly", unfollowed := true, recurses := true, loops := true, apart := false, narrowed := true }
def MinimalExactlyUptoSaid : Prop := minimalExactlyUptoRow.holds Try.pinned (OpenSpec.upto minimalExactlySpec)

/-- 'signatorylaw24.MinimalSmallest', WHERE WHAT IT READS IS OF BULK AT MOST 1048576: true; the input reads as it did. -/
def minimalSmallestUptoRow : OpenClaim := { program := "ytnioapinljedmaa", sum := "f2822e93fef5b88d1f8c681064c617ee10818f4aafd86f9a0a7ebe3fdc0d421b", func := "signatory/signatorylaw24.MinimalSmallest", spec := "minimalSmallest", unfollowed := true, recurses := true, loops := true, apart := false, narrowed := true }
def MinimalSmallestUptoSaid : Prop := minimalSmallestUptoRow.holds Try.pinned (OpenSpec.upto minimalSmallestSpec)

end Rows
end Go.Proofs.Ytnioapinljedmaa
