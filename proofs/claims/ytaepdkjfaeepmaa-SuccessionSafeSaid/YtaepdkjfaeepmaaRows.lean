/-
  No cell of these rows narrows 'for every input' (looked for: loops, veiled, ifaces, maps, wideKeys, modest, calm, conditions, laid).
  DERIVED. THE GIVEN ROWS OF THIS SEAT. 6 by the template 'for every input the law returns true; each argument reads behind the call as it read before'; 0 by the template 'total and deterministic' (their statements: YtaepdkjfaeepmaaTotals.lean).
  GIVEN WITH THE SEED: the statements are not yours to turn. If you find one false, say at which input.
  Laid BY PROGRAM, IN A SANDBOX (cutbox-rows.mjs): the forced cells as the released guide's own fill.sh prints them over the translation cbb859620cfd25bb… (all of the seat's roots in one cut). By AI agents, Wed Nov 11 2026. No macro, syntax, notation, axiom, sorry.
-/
import Derived.Test.YtaepdkjfaeepmaaChecked
import GoSem.Claim
import GoSem.ClaimJoined
import GoSem.ClaimMapViews
import Derived.JoinedTies
import Derived.KernelRfl
namespace Go.Proofs.Ytaepdkjfaeepmaa
/- THE CELL 'sum', in the pinned program and in every row, IS THE sha256 OF THE DUMP (.gsa) THAT YtaepdkjfaeepmaaProg.lean LOADS. Nothing in Lean hashes anything: it is a label: what it is worth is what the hold of that sum in a sandbox is worth. -/
noncomputable def Try.pinned : Pinned := { name := "ytaepdkjfaeepmaa", sum := "cbb859620cfd25bbe95f81a1c7f2c8784fe46c91063b37ee0e481e96dc0fca76", checked := Try.checked }
namespace Rows
def none {H : Type} : Left H := { results := [], args := [] }

/-- 'signatorylaw52.SuccessionSpec': WHATEVER THE INPUT: true; the input reads as it did. -/
def successionSpecSpec : ChangeSpec := { name := "successionSpec", fn := fun _ => fun
  | [d] => { results := [.lit (.bool true)], args := [d] }
  | _ => none }
def successionSpecRow : OpenClaim := { program := "ytaepdkjfaeepmaa", sum := "cbb859620cfd25bbe95f81a1c7f2c8784fe46c91063b37ee0e481e96dc0fca76", func := "signatory/signatorylaw52.SuccessionSpec", spec := "successionSpec", unfollowed := true, recurses := true, plainKeys := false, apart := false }
def SuccessionSpecSaid : Prop := successionSpecRow.holds Try.pinned (OpenSpec.ofChange successionSpecSpec)

/-- ITS FALSE NEIGHBOUR: 'it returns false'. Refute it at one input. -/
def successionSpecWrong : ChangeSpec := { name := "successionSpec", fn := fun _ => fun
  | [d] => { results := [.lit (.bool false)], args := [d] }
  | _ => none }
def SuccessionSpecWrongFalsely : Prop := successionSpecRow.holds Try.pinned (OpenSpec.ofChange successionSpecWrong)

/-- 'signatorylaw52.SuccessionProveSpec': WHATEVER THE INPUT: true; the input reads as it did. -/
def successionProveSpecSpec : ChangeSpec := { name := "successionProveSpec", fn := fun _ => fun
  | [d1, d2, d3] => { results := [.lit (.bool true)], args := [d1, d2, d3] }
  | _ => none }
def successionProveSpecRow : OpenClaim := { program := "ytaepdkjfaeepmaa", sum := "cbb859620cfd25bbe95f81a1c7f2c8784fe46c91063b37ee0e481e96dc0fca76", func := "signatory/signatorylaw52.SuccessionProveSpec", spec := "successionProveSpec", unfollowed := true, recurses := true, plainKeys := false, apart := false }
def SuccessionProveSpecSaid : Prop := successionProveSpecRow.holds Try.pinned (OpenSpec.ofChange successionProveSpecSpec)

/-- ITS FALSE NEIGHBOUR: 'it returns false'. Refute it at one input. -/
def successionProveSpecWrong : ChangeSpec := { name := "successionProveSpec", fn := fun _ => fun
  | [d1, d2, d3] => { results := [.lit (.bool false)], args := [d1, d2, d3] }
  | _ => none }
def SuccessionProveSpecWrongFalsely : Prop := successionProveSpecRow.holds Try.pinned (OpenSpec.ofChange successionProveSpecWrong)

/-- 'signatorylaw52.SuccessionCheapest': WHATEVER THE INPUT: true; the input reads as it did. -/
def successionCheapestSpec : ChangeSpec := { name := "successionCheapest", fn := fun _ => fun
  | [d1, d2] => { results := [.lit (.bool true)], args := [d1, d2] }
  | _ => none }
def successionCheapestRow : OpenClaim := { program := "ytaepdkjfaeepmaa", sum := "cbb859620cfd25bbe95f81a1c7f2c8784fe46c91063b37ee0e481e96dc0fca76", func := "signatory/signatorylaw52.SuccessionCheapest", spec := "successionCheapest", unfollowed := true, recurses := true, plainKeys := false, apart := false }
def SuccessionCheapestSaid : Prop := successionCheapestRow.holds Try.pinned (OpenSpec.ofChange successionCheapestSpec)

/-- ITS FALSE NEIGHBOUR: 'it returns false'. Refute it at one input. -/
def successionCheapestWrong : ChangeSpec := { name := "successionCheapest", fn := fun _ => fun
  | [d1, d2] => { results := [.lit (.bool false)], args := [d1, d2] }
  | _ => none }
def SuccessionCheapestWrongFalsely : Prop := successionCheapestRow.holds Try.pinned (OpenSpec.ofChange successionCheapestWrong)

/-- 'signatorylaw52.SuccessionProof': WHATEVER THE INPUT: true; the input reads as it did. -/
def successionProofSpec : ChangeSpec := { name := "successionProof", fn := fun _ => fun
  | [d1, d2, d3, d4] => { results := [.lit (.bool true)], args := [d1, d2, d3, d4] }
  | _ => none }
def successionProofRow : OpenClaim := { program := "ytaepdkjfaeepmaa", sum := "cbb859620cfd25bbe95f81a1c7f2c8784fe46c91063b37ee0e481e96dc0fca76", func := "signatory/signatorylaw52.SuccessionProof", spec := "successionProof", unfollowed := true, recurses := true, plainKeys := false, apart := false }
def SuccessionProofSaid : Prop := successionProofRow.holds Try.pinned (OpenSpec.ofChange successionProofSpec)

/-- ITS FALSE NEIGHBOUR: 'it returns false'. Refute it at one input. -/
def successionProofWrong : ChangeSpec := { name := "successionProof", fn := fun _ => fun
  | [d1, d2, d3, d4] => { results := [.lit (.bool false)], args := [d1, d2, d3, d4] }
  | _ => none }
def SuccessionProofWrongFalsely : Prop := successionProofRow.holds Try.pinned (OpenSpec.ofChange successionProofWrong)

/-- 'signatorylaw52.SuccessionSafe': WHATEVER THE INPUT: true; the input reads as it did. -/
def successionSafeSpec : ChangeSpec := { name := "successionSafe", fn := fun _ => fun
  | [d] => { results := [.lit (.bool true)], args := [d] }
  | _ => none }
def successionSafeRow : OpenClaim := { program := "ytaepdkjfaeepmaa", sum := "cbb859620cfd25bbe95f81a1c7f2c8784fe46c91063b37ee0e481e96dc0fca76", func := "signatory/signatorylaw52.SuccessionSafe", spec := "successionSafe", unfollowed := true, recurses := true, plainKeys := false, apart := false }
def SuccessionSafeSaid : Prop := successionSafeRow.holds Try.pinned (OpenSpec.ofChange successionSafeSpec)

/-- ITS FALSE NEIGHBOUR: 'it returns false'. Refute it at one input. -/
def successionSafeWrong : ChangeSpec := { name := "successionSafe", fn := fun _ => fun
  | [d] => { results := [.lit (.bool false)], args := [d] }
  | _ => none }
def SuccessionSafeWrongFalsely : Prop := successionSafeRow.holds Try.pinned (OpenSpec.ofChange successionSafeWrong)

/-- 'signatorylaw52.SuccessionEasier': WHATEVER THE INPUT: true; the input reads as it did. -/
def successionEasierSpec : ChangeSpec := { name := "successionEasier", fn := fun _ => fun
  | [d1, d2, d3] => { results := [.lit (.bool true)], args := [d1, d2, d3] }
  | _ => none }
def successionEasierRow : OpenClaim := { program := "ytaepdkjfaeepmaa", sum := "cbb859620cfd25bbe95f81a1c7f2c8784fe46c91063b37ee0e481e96dc0fca76", func := "signatory/signatorylaw52.SuccessionEasier", spec := "successionEasier", unfollowed := true, recurses := true, plainKeys := false, apart := false }
def SuccessionEasierSaid : Prop := successionEasierRow.holds Try.pinned (OpenSpec.ofChange successionEasierSpec)

/-- ITS FALSE NEIGHBOUR: 'it returns false'. Refute it at one input. -/
def successionEasierWrong : ChangeSpec := { name := "successionEasier", fn := fun _ => fun
  | [d1, d2, d3] => { results := [.lit (.bool false)], args := [d1, d2, d3] }
  | _ => none }
def SuccessionEasierWrongFalsely : Prop := successionEasierRow.holds Try.pinned (OpenSpec.ofChange successionEasierWrong)

/- THE SECOND FORM. 'bulk': how many values and letters a reading holds, each counted each time it is reached (what is shared counts as often as it is met; a slice's spare places count too). A statement '..UptoSaid' is the law's where the arguments, and the package variables that the reading takes, are together of bulk at most 1048576: NARROWER than '..Said'. Prove '..Said' where nothing that the law and all that it calls make is longer than what came in: it says more and counts as full. Else prove '..UptoSaid'. A law counts once. -/
mutual
def uptoBulk {H : Type} : DataW H → Nat
  | .lit (.string bytes) => bytes.length + 1
  | .lit _ => 1
  | .nil => 1
  | .ptr d => uptoBulk d + 1
  | .slice elems spare => uptoBulkAll elems + uptoBulkAll spare + 1
  | .agg parts => uptoBulkAll parts + 1
  | .iface _ d => uptoBulk d + 1
  | .map entries => uptoBulkEntries entries + 1
  | .held _ => 1
def uptoBulkAll {H : Type} : List (DataW H) → Nat
  | [] => 0
  | d :: r => uptoBulk d + uptoBulkAll r
def uptoBulkEntries {H : Type} : List (Lit × DataW H) → Nat
  | [] => 0
  | x :: r => uptoBulkEntry x + uptoBulkEntries r
def uptoBulkEntry {H : Type} : Lit × DataW H → Nat
  | (.string bytes, d) => bytes.length + uptoBulk d + 1
  | (_, d) => uptoBulk d + 1
 end
def uptoSmall : (H : Type) → List (DataW H) → Bool := fun _ ds => decide (uptoBulkAll ds ≤ 1048576)
def OpenSpec.upto (s : _root_.Go.ChangeSpec) : _root_.Go.OpenSpec := { _root_.Go.OpenSpec.ofChange s with cond := some uptoSmall }

/-- 'signatorylaw52.SuccessionSpec', WHERE WHAT IT READS IS OF BULK AT MOST 1048576: true; the input reads as it did. -/
def successionSpecUptoRow : OpenClaim := { program := "ytaepdkjfaeepmaa", sum := "cbb859620cfd25bbe95f81a1c7f2c8784fe46c91063b37ee0e481e96dc0fca76", func := "signatory/signatorylaw52.SuccessionSpec", spec := "successionSpec", unfollowed := true, recurses := true, plainKeys := false, apart := false, narrowed := true }
def SuccessionSpecUptoSaid : Prop := successionSpecUptoRow.holds Try.pinned (OpenSpec.upto successionSpecSpec)

/-- 'signatorylaw52.SuccessionProveSpec', WHERE WHAT IT READS IS OF BULK AT MOST 1048576: true; the input reads as it did. -/
def successionProveSpecUptoRow : OpenClaim := { program := "ytaepdkjfaeepmaa", sum := "cbb859620cfd25bbe95f81a1c7f2c8784fe46c91063b37ee0e481e96dc0fca76", func := "signatory/signatorylaw52.SuccessionProveSpec", spec := "successionProveSpec", unfollowed := true, recurses := true, plainKeys := false, apart := false, narrowed := true }
def SuccessionProveSpecUptoSaid : Prop := successionProveSpecUptoRow.holds Try.pinned (OpenSpec.upto successionProveSpecSpec)

/-- 'signatorylaw52.SuccessionCheapest', WHERE WHAT IT READS IS OF BULK AT MOST 1048576: true; the input reads as it did. -/
def successionCheapestUptoRow : OpenClaim := { program := "ytaepdkjfaeepmaa", sum := "cbb859620cfd25bbe95f81a1c7f2c8784fe46c91063b37ee0e481e96dc0fca76", func := "signatory/signatorylaw52.SuccessionCheapest", spec := "successionCheapest", unfollowed := true, recurses := true, plainKeys := false, apart := false, narrowed := true }
def SuccessionCheapestUptoSaid : Prop := successionCheapestUptoRow.holds Try.pinned (OpenSpec.upto successionCheapestSpec)

/-- 'signatorylaw52.SuccessionProof', WHERE WHAT IT READS IS OF BULK AT MOST 1048576: true; the input reads as it did. -/
def successionProofUptoRow : OpenClaim := { program := "ytaepdkjfaeepmaa", sum := "cbb859620cfd25bbe95f81a1c7f2c8784fe46c91063b37ee0e481e96dc0fca76", func := "signatory/signatorylaw52.SuccessionProof", spec := "successionProof", unfollowed := true, recurses := true, plainKeys := false, apart := false, narrowed := true }
def SuccessionProofUptoSaid : Prop := successionProofUptoRow.holds Try.pinned (OpenSpec.upto successionProofSpec)

/-- 'signatorylaw52.SuccessionSafe', WHERE WHAT IT READS IS OF BULK AT MOST 1048576: true; the input reads as it did. -/
def successionSafeUptoRow : OpenClaim := { program := "ytaepdkjfaeepmaa", sum := "cbb859620cfd25bbe95f81a1c7f2c8784fe46c91063b37ee0e481e96dc0fca76", func := "signatory/signatorylaw52.SuccessionSafe", spec := "successionSafe", unfollowed := true, recurses := true, plainKeys := false, apart := false, narrowed := true }
def SuccessionSafeUptoSaid : Prop := successionSafeUptoRow.holds Try.pinned (OpenSpec.upto successionSafeSpec)

/-- 'signatorylaw52.SuccessionEasier', WHERE WHAT IT READS IS OF BULK AT MOST 1048576: true; the input reads as it did. -/
def successionEasierUptoRow : OpenClaim := { program := "ytaepdkjfaeepmaa", sum := "cbb859620cfd25bbe95f81a1c7f2c8784fe46c91063b37ee0e481e96dc0fca76", func := "signatory/signatorylaw52.SuccessionEasier", spec := "successionEasier", unfollowed := true, recurses := true, plainKeys := false, apart := false, narrowed := true }
def SuccessionEasierUptoSaid : Prop := successionEasierUptoRow.holds Try.pinned (OpenSpec.upto successionEasierSpec)

end Rows
end Go.Proofs.Ytaepdkjfaeepmaa
