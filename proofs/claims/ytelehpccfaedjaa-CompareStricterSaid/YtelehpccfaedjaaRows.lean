/-
  NARROWER THAN 'FOR EVERY INPUT', by the rows' own cells (each row's printed sentence says how): CompareEither: loops · CompareSound: loops · CompareOrder: loops · CompareStricter: loops.
  DERIVED. THE GIVEN ROWS OF THIS SEAT. 10 by the template 'for every input the law returns true; each argument reads behind the call as it read before'; 0 by the template 'total and deterministic' (their statements: YtelehpccfaedjaaTotals.lean).
  GIVEN WITH THE SEED: the statements are not yours to turn. If you find one false, say at which input.
  Laid BY PROGRAM, IN A SANDBOX (cutbox-rows.mjs): the forced cells as the released guide's own fill.sh prints them over the translation ade40088d591141b… (all of the seat's roots in one cut). By AI agents, Wed Nov 11 2026. No macro, syntax, notation, axiom, sorry.
-/
import Derived.Test.YtelehpccfaedjaaChecked
import GoSem.Claim
import GoSem.ClaimJoined
import GoSem.ClaimMapViews
import Derived.JoinedTies
import Derived.KernelRfl
namespace Go.Proofs.Ytelehpccfaedjaa
/- THE CELL 'sum', in the pinned program and in every row, IS THE sha256 OF THE DUMP (.gsa) THAT YtelehpccfaedjaaProg.lean LOADS. Nothing in Lean hashes anything: it is a label: what it is worth is what the hold of that sum in a sandbox is worth. -/
noncomputable def Try.pinned : Pinned := { name := "ytelehpccfaedjaa", sum := "ade40088d591141b6028ead99ca96d24d559e2b91c7a8d314f69be051457d549", checked := Try.checked }
namespace Rows
def none {H : Type} : Left H := { results := [], args := [] }

/-- 'signatorylaw53.AccountsSpec': WHATEVER THE INPUT: true; the input reads as it did. -/
def accountsSpecSpec : ChangeSpec := { name := "accountsSpec", fn := fun _ => fun
  | [d1, d2, d3, d4, d5] => { results := [.lit (.bool true)], args := [d1, d2, d3, d4, d5] }
  | _ => none }
def accountsSpecRow : OpenClaim := { program := "ytelehpccfaedjaa", sum := "ade40088d591141b6028ead99ca96d24d559e2b91c7a8d314f69be051457d549", func := "signatory/signatorylaw53.AccountsSpec", spec := "accountsSpec", unfollowed := true, recurses := true, plainKeys := false, apart := false }
def AccountsSpecSaid : Prop := accountsSpecRow.holds Try.pinned (OpenSpec.ofChange accountsSpecSpec)

/-- ITS FALSE NEIGHBOUR: 'it returns false'. Refute it at one input. -/
def accountsSpecWrong : ChangeSpec := { name := "accountsSpec", fn := fun _ => fun
  | [d1, d2, d3, d4, d5] => { results := [.lit (.bool false)], args := [d1, d2, d3, d4, d5] }
  | _ => none }
def AccountsSpecWrongFalsely : Prop := accountsSpecRow.holds Try.pinned (OpenSpec.ofChange accountsSpecWrong)

/-- 'signatorylaw53.AccountsHistorySpec': WHATEVER THE INPUT: true; the input reads as it did. -/
def accountsHistorySpecSpec : ChangeSpec := { name := "accountsHistorySpec", fn := fun _ => fun
  | [d1, d2, d3, d4, d5] => { results := [.lit (.bool true)], args := [d1, d2, d3, d4, d5] }
  | _ => none }
def accountsHistorySpecRow : OpenClaim := { program := "ytelehpccfaedjaa", sum := "ade40088d591141b6028ead99ca96d24d559e2b91c7a8d314f69be051457d549", func := "signatory/signatorylaw53.AccountsHistorySpec", spec := "accountsHistorySpec", unfollowed := true, recurses := true, plainKeys := false, apart := false }
def AccountsHistorySpecSaid : Prop := accountsHistorySpecRow.holds Try.pinned (OpenSpec.ofChange accountsHistorySpecSpec)

/-- ITS FALSE NEIGHBOUR: 'it returns false'. Refute it at one input. -/
def accountsHistorySpecWrong : ChangeSpec := { name := "accountsHistorySpec", fn := fun _ => fun
  | [d1, d2, d3, d4, d5] => { results := [.lit (.bool false)], args := [d1, d2, d3, d4, d5] }
  | _ => none }
def AccountsHistorySpecWrongFalsely : Prop := accountsHistorySpecRow.holds Try.pinned (OpenSpec.ofChange accountsHistorySpecWrong)

/-- 'signatorylaw53.AccountsKnown': WHATEVER THE INPUT: true; the input reads as it did. -/
def accountsKnownSpec : ChangeSpec := { name := "accountsKnown", fn := fun _ => fun
  | [d1, d2, d3, d4, d5, d6] => { results := [.lit (.bool true)], args := [d1, d2, d3, d4, d5, d6] }
  | _ => none }
def accountsKnownRow : OpenClaim := { program := "ytelehpccfaedjaa", sum := "ade40088d591141b6028ead99ca96d24d559e2b91c7a8d314f69be051457d549", func := "signatory/signatorylaw53.AccountsKnown", spec := "accountsKnown", unfollowed := true, recurses := true, plainKeys := false, apart := false }
def AccountsKnownSaid : Prop := accountsKnownRow.holds Try.pinned (OpenSpec.ofChange accountsKnownSpec)

/-- ITS FALSE NEIGHBOUR: 'it returns false'. Refute it at one input. -/
def accountsKnownWrong : ChangeSpec := { name := "accountsKnown", fn := fun _ => fun
  | [d1, d2, d3, d4, d5, d6] => { results := [.lit (.bool false)], args := [d1, d2, d3, d4, d5, d6] }
  | _ => none }
def AccountsKnownWrongFalsely : Prop := accountsKnownRow.holds Try.pinned (OpenSpec.ofChange accountsKnownWrong)

/-- 'signatorylaw53.AccountsSteps': WHATEVER THE INPUT: true; the input reads as it did. -/
def accountsStepsSpec : ChangeSpec := { name := "accountsSteps", fn := fun _ => fun
  | [d1, d2, d3, d4, d5] => { results := [.lit (.bool true)], args := [d1, d2, d3, d4, d5] }
  | _ => none }
def accountsStepsRow : OpenClaim := { program := "ytelehpccfaedjaa", sum := "ade40088d591141b6028ead99ca96d24d559e2b91c7a8d314f69be051457d549", func := "signatory/signatorylaw53.AccountsSteps", spec := "accountsSteps", unfollowed := true, recurses := true, plainKeys := false, apart := false }
def AccountsStepsSaid : Prop := accountsStepsRow.holds Try.pinned (OpenSpec.ofChange accountsStepsSpec)

/-- ITS FALSE NEIGHBOUR: 'it returns false'. Refute it at one input. -/
def accountsStepsWrong : ChangeSpec := { name := "accountsSteps", fn := fun _ => fun
  | [d1, d2, d3, d4, d5] => { results := [.lit (.bool false)], args := [d1, d2, d3, d4, d5] }
  | _ => none }
def AccountsStepsWrongFalsely : Prop := accountsStepsRow.holds Try.pinned (OpenSpec.ofChange accountsStepsWrong)

/-- 'signatorylaw53.AccountsKinds': WHATEVER THE INPUT: true; the input reads as it did. -/
def accountsKindsSpec : ChangeSpec := { name := "accountsKinds", fn := fun _ => fun
  | [d1, d2, d3, d4, d5] => { results := [.lit (.bool true)], args := [d1, d2, d3, d4, d5] }
  | _ => none }
def accountsKindsRow : OpenClaim := { program := "ytelehpccfaedjaa", sum := "ade40088d591141b6028ead99ca96d24d559e2b91c7a8d314f69be051457d549", func := "signatory/signatorylaw53.AccountsKinds", spec := "accountsKinds", unfollowed := true, recurses := true, plainKeys := false, apart := false }
def AccountsKindsSaid : Prop := accountsKindsRow.holds Try.pinned (OpenSpec.ofChange accountsKindsSpec)

/-- ITS FALSE NEIGHBOUR: 'it returns false'. Refute it at one input. -/
def accountsKindsWrong : ChangeSpec := { name := "accountsKinds", fn := fun _ => fun
  | [d1, d2, d3, d4, d5] => { results := [.lit (.bool false)], args := [d1, d2, d3, d4, d5] }
  | _ => none }
def AccountsKindsWrongFalsely : Prop := accountsKindsRow.holds Try.pinned (OpenSpec.ofChange accountsKindsWrong)

/-- 'signatorylaw53.AccountsNever': WHATEVER THE INPUT: true; the input reads as it did. -/
def accountsNeverSpec : ChangeSpec := { name := "accountsNever", fn := fun _ => fun
  | [d1, d2, d3] => { results := [.lit (.bool true)], args := [d1, d2, d3] }
  | _ => none }
def accountsNeverRow : OpenClaim := { program := "ytelehpccfaedjaa", sum := "ade40088d591141b6028ead99ca96d24d559e2b91c7a8d314f69be051457d549", func := "signatory/signatorylaw53.AccountsNever", spec := "accountsNever", unfollowed := true, recurses := true, plainKeys := false, apart := false }
def AccountsNeverSaid : Prop := accountsNeverRow.holds Try.pinned (OpenSpec.ofChange accountsNeverSpec)

/-- ITS FALSE NEIGHBOUR: 'it returns false'. Refute it at one input. -/
def accountsNeverWrong : ChangeSpec := { name := "accountsNever", fn := fun _ => fun
  | [d1, d2, d3] => { results := [.lit (.bool false)], args := [d1, d2, d3] }
  | _ => none }
def AccountsNeverWrongFalsely : Prop := accountsNeverRow.holds Try.pinned (OpenSpec.ofChange accountsNeverWrong)

/-- 'signatorylaw25.CompareEither': WHATEVER THE INPUT: true; the input reads as it did. -/
def compareEitherSpec : ChangeSpec := { name := "compareEither", fn := fun _ => fun
  | [d1, d2, d3, d4] => { results := [.lit (.bool true)], args := [d1, d2, d3, d4] }
  | _ => none }
def compareEitherRow : OpenClaim := { program := "ytelehpccfaedjaa", sum := "ade40088d591141b6028ead99ca96d24d559e2b91c7a8d314f69be051457d549", func := "signatory/signatorylaw25.CompareEither", spec := "compareEither", unfollowed := true, recurses := true, loops := true, plainKeys := false, apart := false }
def CompareEitherSaid : Prop := compareEitherRow.holds Try.pinned (OpenSpec.ofChange compareEitherSpec)

/-- ITS FALSE NEIGHBOUR: 'it returns false'. Refute it at one input. -/
def compareEitherWrong : ChangeSpec := { name := "compareEither", fn := fun _ => fun
  | [d1, d2, d3, d4] => { results := [.lit (.bool false)], args := [d1, d2, d3, d4] }
  | _ => none }
def CompareEitherWrongFalsely : Prop := compareEitherRow.holds Try.pinned (OpenSpec.ofChange compareEitherWrong)

/-- 'signatorylaw25.CompareSound': WHATEVER THE INPUT: true; the input reads as it did. -/
def compareSoundSpec : ChangeSpec := { name := "compareSound", fn := fun _ => fun
  | [d1, d2, d3, d4, d5] => { results := [.lit (.bool true)], args := [d1, d2, d3, d4, d5] }
  | _ => none }
def compareSoundRow : OpenClaim := { program := "ytelehpccfaedjaa", sum := "ade40088d591141b6028ead99ca96d24d559e2b91c7a8d314f69be051457d549", func := "signatory/signatorylaw25.CompareSound", spec := "compareSound", unfollowed := true, recurses := true, loops := true, plainKeys := false, apart := false }
def CompareSoundSaid : Prop := compareSoundRow.holds Try.pinned (OpenSpec.ofChange compareSoundSpec)

/-- ITS FALSE NEIGHBOUR: 'it returns false'. Refute it at one input. -/
def compareSoundWrong : ChangeSpec := { name := "compareSound", fn := fun _ => fun
  | [d1, d2, d3, d4, d5] => { results := [.lit (.bool false)], args := [d1, d2, d3, d4, d5] }
  | _ => none }
def CompareSoundWrongFalsely : Prop := compareSoundRow.holds Try.pinned (OpenSpec.ofChange compareSoundWrong)

/-- 'signatorylaw25.CompareOrder': WHATEVER THE INPUT: true; the input reads as it did. -/
def compareOrderSpec : ChangeSpec := { name := "compareOrder", fn := fun _ => fun
  | [d1, d2, d3] => { results := [.lit (.bool true)], args := [d1, d2, d3] }
  | _ => none }
def compareOrderRow : OpenClaim := { program := "ytelehpccfaedjaa", sum := "ade40088d591141b6028ead99ca96d24d559e2b91c7a8d314f69be051457d549", func := "signatory/signatorylaw25.CompareOrder", spec := "compareOrder", unfollowed := true, recurses := true, loops := true, plainKeys := false, apart := false }
def CompareOrderSaid : Prop := compareOrderRow.holds Try.pinned (OpenSpec.ofChange compareOrderSpec)

/-- ITS FALSE NEIGHBOUR: 'it returns false'. Refute it at one input. -/
def compareOrderWrong : ChangeSpec := { name := "compareOrder", fn := fun _ => fun
  | [d1, d2, d3] => { results := [.lit (.bool false)], args := [d1, d2, d3] }
  | _ => none }
def CompareOrderWrongFalsely : Prop := compareOrderRow.holds Try.pinned (OpenSpec.ofChange compareOrderWrong)

/-- 'signatorylaw25.CompareStricter': WHATEVER THE INPUT: true; the input reads as it did. -/
def compareStricterSpec : ChangeSpec := { name := "compareStricter", fn := fun _ => fun
  | [d1, d2, d3] => { results := [.lit (.bool true)], args := [d1, d2, d3] }
  | _ => none }
def compareStricterRow : OpenClaim := { program := "ytelehpccfaedjaa", sum := "ade40088d591141b6028ead99ca96d24d559e2b91c7a8d314f69be051457d549", func := "signatory/signatorylaw25.CompareStricter", spec := "compareStricter", unfollowed := true, recurses := true, loops := true, plainKeys := false, apart := false }
def CompareStricterSaid : Prop := compareStricterRow.holds Try.pinned (OpenSpec.ofChange compareStricterSpec)

/-- ITS FALSE NEIGHBOUR: 'it returns false'. Refute it at one input. -/
def compareStricterWrong : ChangeSpec := { name := "compareStricter", fn := fun _ => fun
  | [d1, d2, d3] => { results := [.lit (.bool false)], args := [d1, d2, d3] }
  | _ => none }
def CompareStricterWrongFalsely : Prop := compareStricterRow.holds Try.pinned (OpenSpec.ofChange compareStricterWrong)

/- THE SECOND FORM. 'bulk': how many values and letters a reading holds, each counted each time it is reached (what is shared counts as often as it is met; a slice's spare places count too). A statement '..UptoSaid' is the law's where the arguments, and the package variables that the reading takes, are together of bulk at most 1048576: NARROWER than '..Said'. Prove '..Said' where nothing that the law and all that it calls make is longer than what came in: it says more and counts as full. Else prove '..UptoSaid'. A law counts once. -/
mutual
def uptoBulk {H : Type} : DataW H → Nat
  | .lit (.string bytes) => bytes.length + 1
  | .lit _ => 1
  | .nil => 1
  | .ptr d => uptoBulk d + 1
  | .slice elems spare => uptoBulkAll elems + uptoBulkAll spare + 1
  | .agg parts => uptoBulkAll parts + 1
  | .iface _ d => uptoBulk d + 1
  | .map entries => uptoBulkEntries entries + 1
  | .held _ => 1
def uptoBulkAll {H : Type} : List (DataW H) → Nat
  | [] => 0
  | d :: r => uptoBulk d + uptoBulkAll r
def uptoBulkEntries {H : Type} : List (Lit × DataW H) → Nat
  | [] => 0
  | x :: r => uptoBulkEntry x + uptoBulkEntries r
def uptoBulkEntry {H : Type} : Lit × DataW H → Nat
  | (.string bytes, d) => bytes.length + uptoBulk d + 1
  | (_, d) => uptoBulk d + 1
 end
def uptoSmall : (H : Type) → List (DataW H) → Bool := fun _ ds => decide (uptoBulkAll ds ≤ 1048576)
def OpenSpec.upto (s : _root_.Go.ChangeSpec) : _root_.Go.OpenSpec := { _root_.Go.OpenSpec.ofChange s with cond := some uptoSmall }

/-- 'signatorylaw53.AccountsSpec', WHERE WHAT IT READS IS OF BULK AT MOST 1048576: true; the input reads as it did. -/
def accountsSpecUptoRow : OpenClaim := { program := "ytelehpccfaedjaa", sum := "ade40088d591141b6028ead99ca96d24d559e2b91c7a8d314f69be051457d549", func := "signatory/signatorylaw53.AccountsSpec", spec := "accountsSpec", unfollowed := true, recurses := true, plainKeys := false, apart := false, narrowed := true }
def AccountsSpecUptoSaid : Prop := accountsSpecUptoRow.holds Try.pinned (OpenSpec.upto accountsSpecSpec)

/-- 'signatorylaw53.AccountsHistorySpec', WHERE WHAT IT READS IS OF BULK AT MOST 1048576: true; the input reads as it did. -/
def accountsHistorySpecUptoRow : OpenClaim := { program := "ytelehpccfaedjaa", sum := "ade40088d591141b6028ead99ca96d24d559e2b91c7a8d314f69be051457d549", func := "signatory/signatorylaw53.AccountsHistorySpec", spec := "accountsHistorySpec", unfollowed := true, recurses := true, plainKeys := false, apart := false, narrowed := true }
def AccountsHistorySpecUptoSaid : Prop := accountsHistorySpecUptoRow.holds Try.pinned (OpenSpec.upto accountsHistorySpecSpec)

/-- 'signatorylaw53.AccountsKnown', WHERE WHAT IT READS IS OF BULK AT MOST 1048576: true; the input reads as it did. -/
def accountsKnownUptoRow : OpenClaim := { program := "ytelehpccfaedjaa", sum := "ade40088d591141b6028ead99ca96d24d559e2b91c7a8d314f69be051457d549", func := "signatory/signatorylaw53.AccountsKnown", spec := "accountsKnown", unfollowed := true, recurses := true, plainKeys := false, apart := false, narrowed := true }
def AccountsKnownUptoSaid : Prop := accountsKnownUptoRow.holds Try.pinned (OpenSpec.upto accountsKnownSpec)

/-- 'signatorylaw53.AccountsSteps', WHERE WHAT IT READS IS OF BULK AT MOST 1048576: true; the input reads as it did. -/
def accountsStepsUptoRow : OpenClaim := { program := "ytelehpccfaedjaa", sum := "ade40088d591141b6028ead99ca96d24d559e2b91c7a8d314f69be051457d549", func := "signatory/signatorylaw53.AccountsSteps", spec := "accountsSteps", unfollowed := true, recurses := true, plainKeys := false, apart := false, narrowed := true }
def AccountsStepsUptoSaid : Prop := accountsStepsUptoRow.holds Try.pinned (OpenSpec.upto accountsStepsSpec)

/-- 'signatorylaw53.AccountsKinds', WHERE WHAT IT READS IS OF BULK AT MOST 1048576: true; the input reads as it did. -/
def accountsKindsUptoRow : OpenClaim := { program := "ytelehpccfaedjaa", sum := "ade40088d591141b6028ead99ca96d24d559e2b91c7a8d314f69be051457d549", func := "signatory/signatorylaw53.AccountsKinds", spec := "accountsKinds", unfollowed := true, recurses := true, plainKeys := false, apart := false, narrowed := true }
def AccountsKindsUptoSaid : Prop := accountsKindsUptoRow.holds Try.pinned (OpenSpec.upto accountsKindsSpec)

/-- 'signatorylaw53.AccountsNever', WHERE WHAT IT READS IS OF BULK AT MOST 1048576: true; the input reads as it did. -/
def accountsNeverUptoRow : OpenClaim := { program := "ytelehpccfaedjaa", sum := "ade40088d591141b6028ead99ca96d24d559e2b91c7a8d314f69be051457d549", func := "signatory/signatorylaw53.AccountsNever", spec := "accountsNever", unfollowed := true, recurses := true, plainKeys := false, apart := false, narrowed := true }
def AccountsNeverUptoSaid : Prop := accountsNeverUptoRow.holds Try.pinned (OpenSpec.upto accountsNeverSpec)

/-- 'signatorylaw25.CompareEither', WHERE WHAT IT READS IS OF BULK AT MOST 1048576: true; the input reads as it did. -/
def compareEitherUptoRow : OpenClaim := { program := "ytelehpccfaedjaa", sum := "ade40088d591141b6028ead99ca96d24d559e2b91c7a8d314f69be051457d549", func := "signatory/signatorylaw25.CompareEither", spec := "compareEither", unfollowed := true, recurses := true, loops := true, plainKeys := false, apart := false, narrowed := true }
def CompareEitherUptoSaid : Prop := compareEitherUptoRow.holds Try.pinned (OpenSpec.upto compareEitherSpec)

/-- 'signatorylaw25.CompareSound', WHERE WHAT IT READS IS OF BULK AT MOST 1048576: true; the input reads as it did. -/
def compareSoundUptoRow : OpenClaim := { program := "ytelehpccfaedjaa", sum := "ade40088d591141b6028ead99ca96d24d559e2b91c7a8d314f69be051457d549", func := "signatory/signatorylaw25.CompareSound", spec := "compareSound", unfollowed := true, recurses := true, loops := true, plainKeys := false, apart := false, narrowed := true }
def CompareSoundUptoSaid : Prop := compareSoundUptoRow.holds Try.pinned (OpenSpec.upto compareSoundSpec)

/-- 'signatorylaw25.CompareOrder', WHERE WHAT IT READS IS OF BULK AT MOST 1048576: true; the input reads as it did. -/
def compareOrderUptoRow : OpenClaim := { program := "ytelehpccfaedjaa", sum := "ade40088d591141b6028ead99ca96d24d559e2b91c7a8d314f69be051457d549", func := "signatory/signatorylaw25.CompareOrder", spec := "compareOrder", unfollowed := true, recurses := true, loops := true, plainKeys := false, apart := false, narrowed := true }
def CompareOrderUptoSaid : Prop := compareOrderUptoRow.holds Try.pinned (OpenSpec.upto compareOrderSpec)

/-- 'signatorylaw25.CompareStricter', WHERE WHAT IT READS IS OF BULK AT MOST 1048576: true; the input reads as it did. -/
def compareStricterUptoRow : OpenClaim := { program := "ytelehpccfaedjaa", sum := "ade40088d591141b6028ead99ca96d24d559e2b91c7a8d314f69be051457d549", func := "signatory/signatorylaw25.CompareStricter", spec := "compareStricter", unfollowed := true, recurses := true, loops := true, plainKeys := false, apart := false, narrowed := true }
def CompareStricterUptoSaid : Prop := compareStricterUptoRow.holds Try.pinned (OpenSpec.upto compareStricterSpec)

end Rows
end Go.Proofs.Ytelehpccfaedjaa
