/-
  NARROWER THAN 'FOR EVERY INPUT', by the rows' own cells (each row's printed sentence says how): LockoutSpec: loops · LockoutSafeSpec: loops · LockoutEither: loops · LockoutMore: loops · LockoutBlocks: loops.
  DERIVED. THE GIVEN ROWS OF THIS SEAT. 5 by the template 'for every input the law returns true; each argument reads behind the call as it read before'; 0 by the template 'total and deterministic' (their statements: YtlgamlamolfnlaaGreatTotals.lean).
  GIVEN WITH THE SEED: the statements are not yours to turn. If you find one false, say at which input.
  Laid BY PROGRAM, IN A SANDBOX (cutbox-rows.mjs): the forced cells as the released guide's own fill.sh prints them over the translation 5ca976557f6220c0… (all of the seat's roots in one cut). By AI agents, Wed Nov 11 2026. No macro, syntax, notation, axiom, sorry.
-/
import Derived.Test.YtlgamlamolfnlaaGreatChecked
import GoSem.Claim
import GoSem.ClaimJoined
import GoSem.ClaimMapViews
import Derived.JoinedTies
import Derived.KernelRfl
namespace Go.Proofs.YtlgamlamolfnlaaGreat
/- THE CELL 'sum', in the pinned program and in every row, IS THE sha256 OF THE DUMP (.gsa) THAT YtlgamlamolfnlaaGreatProg.lean LOADS. Nothing in Lean hashes anything: it is a label: what it is worth is what the hold of that sum in a sandbox is worth. -/
noncomputable def Tryz.pinned : Pinned := { name := "ytlgamlamolfnlaagreat", sum := "5ca976557f6220c06729b8777a62e5145b32284b48fec575a2c07c9cf23e5ab0", checked := Tryz.checked }
namespace Rows
def none {H : Type} : Left H := { results := [], args := [] }

/-- 'signatorylaw26.LockoutSpec': WHATEVER THE INPUT: true; the input reads as it did. -/
def lockoutSpecSpec : ChangeSpec := { name := "lockoutSpec", fn := fun _ => fun
  | [d1, d2] => { results := [.lit (.bool true)], args := [d1, d2] }
  | _ => none }
def lockoutSpecRow : OpenClaim := { program := "ytlgamlamolfnlaagreat", sum := "5ca976557f6220c06729b8777a62e5145b32284b48fec575a2c07c9cf23e5ab0", func := "signatory/signatorylaw26.LockoutSpec", spec := "lockoutSpec", unfollowed := true, recurses := true, loops := true, apart := false }
def LockoutSpecSaid : Prop := lockoutSpecRow.holds Tryz.pinned (OpenSpec.ofChange lockoutSpecSpec)

/-- ITS FALSE NEIGHBOUR: 'it returns false'. Refute it at one input. -/
def lockoutSpecWrong : ChangeSpec := { name := "lockoutSpec", fn := fun _ => fun
  | [d1, d2] => { results := [.lit (.bool false)], args := [d1, d2] }
  | _ => none }
def LockoutSpecWrongFalsely : Prop := lockoutSpecRow.holds Tryz.pinned (OpenSpec.ofChange lockoutSpecWrong)

/-- 'signatorylaw26.LockoutSafeSpec': WHATEVER THE INPUT: true; the input reads as it did. -/
def lockoutSafeSpecSpec : ChangeSpec := { name := "lockoutSafeSpec", fn := fun _ => fun
  | [d1, d2, d3] => { results := [.lit (.bool true)], args := [d1, d2, d3] }
  | _ => none }
def lockoutSafeSpecRow : OpenClaim := { program := "ytlgamlamolfnlaagreat", sum := "5ca976557f6220c06729b8777a62e5145b32284b48fec575a2c07c9cf23e5ab0", func := "signatory/signatorylaw26.LockoutSafeSpec", spec := "lockoutSafeSpec", unfollowed := true, recurses := true, loops := true, apart := false }
def LockoutSafeSpecSaid : Prop := lockoutSafeSpecRow.holds Tryz.pinned (OpenSpec.ofChange lockoutSafeSpecSpec)

/-- ITS FALSE NEIGHBOUR: 'it returns false'. Refute it at one input. -/
def lockoutSafeSpecWrong : ChangeSpec := { name := "lockoutSafeSpec", fn := fun _ => fun
  | [d1, d2, d3] => { results := [.lit (.bool false)], args := [d1, d2, d3] }
  | _ => none }
def LockoutSafeSpecWrongFalsely : Prop := lockoutSafeSpecRow.holds Tryz.pinned (OpenSpec.ofChange lockoutSafeSpecWrong)

/-- 'signatorylaw26.LockoutEither': WHATEVER THE INPUT: true; the input reads as it did. -/
def lockoutEitherSpec : ChangeSpec := { name := "lockoutEither", fn := fun _ => fun
  | [d1, d2, d3, d4] => { results := [.lit (.bool true)], args := [d1, d2, d3, d4] }
  | _ => none }
def lockoutEitherRow : OpenClaim := { program := "ytlgamlamolfnlaagreat", sum := "5ca976557f6220c06729b8777a62e5145b32284b48fec575a2c07c9cf23e5ab0", func := "signatory/signatorylaw26.LockoutEither", spec := "lockoutEither", unfollowed := true, recurses := true, loops := true, apart := false }
def LockoutEitherSaid : Prop := lockoutEitherRow.holds Tryz.pinned (OpenSpec.ofChange lockoutEitherSpec)

/-- ITS FALSE NEIGHBOUR: 'it returns false'. Refute it at one input. -/
def lockoutEitherWrong : ChangeSpec := { name := "lockoutEither", fn := fun _ => fun
  | [d1, d2, d3, d4] => { results := [.lit (.bool false)], args := [d1, d2, d3, d4] }
  | _ => none }
def LockoutEitherWrongFalsely : Prop := lockoutEitherRow.holds Tryz.pinned (OpenSpec.ofChange lockoutEitherWrong)

/-- 'signatorylaw26.LockoutMore': WHATEVER THE INPUT: true; the input reads as it did. -/
def lockoutMoreSpec : ChangeSpec := { name := "lockoutMore", fn := fun _ => fun
  | [d1, d2, d3] => { results := [.lit (.bool true)], args := [d1, d2, d3] }
  | _ => none }
def lockoutMoreRow : OpenClaim := { program := "ytlgamlamolfnlaagreat", sum := "5ca976557f6220c06729b8777a62e5145b32284b48fec575a2c07c9cf23e5ab0", func := "signatory/signatorylaw26.LockoutMore", spec := "lockoutMore", unfollowed := true, recurses := true, loops := true, apart := false }
def LockoutMoreSaid : Prop := lockoutMoreRow.holds Tryz.pinned (OpenSpec.ofChange lockoutMoreSpec)

/-- ITS FALSE NEIGHBOUR: 'it returns false'. Refute it at one input. -/
def lockoutMoreWrong : ChangeSpec := { name := "lockoutMore", fn := fun _ => fun
  | [d1, d2, d3] => { results := [.lit (.bool false)], args := [d1, d2, d3] }
  | _ => none }
def LockoutMoreWrongFalsely : Prop := lockoutMoreRow.holds Tryz.pinned (OpenSpec.ofChange lockoutMoreWrong)

/-- 'signatorylaw26.LockoutBlocks': WHATEVER THE INPUT: true; the input reads as it did. -/
def lockoutBlocksSpec : ChangeSpec := { name := "lockoutBlocks", fn := fun _ => fun
  | [d1, d2] => { results := [.lit (.bool true)], args := [d1, d2] }
  | _ => none }
def lockoutBlocksRow : OpenClaim := { program := "ytlgamlamolfnlaagreat", sum := "5ca976557f6220c06729b8777a62e5145b32284b48fec575a2c07c9cf23e5ab0", func := "signatory/signatorylaw26.LockoutBlocks", spec := "lockoutBlocks", unfollowed := true, recurses := true, loops := true, apart := false }
def LockoutBlocksSaid : Prop := lockoutBlocksRow.holds Tryz.pinned (OpenSpec.ofChange lockoutBlocksSpec)

/-- ITS FALSE NEIGHBOUR: 'it returns false'. Refute it at one input. -/
def lockoutBlocksWrong : ChangeSpec := { name := "lockoutBlocks", fn := fun _ => fun
  | [d1, d2] => { results := [.lit (.bool false)], args := [d1, d2] }
  | _ => none }
def LockoutBlocksWrongFalsely : Prop := lockoutBlocksRow.holds Tryz.pinned (OpenSpec.ofChange lockoutBlocksWrong)

/- THE SECOND FORM. 'bulk': how many values and letters a reading holds, each counted each time it is reached (what is shared counts as often as it is met; a slice's spare places count too). A statement '..UptoSaid' is the law's where the arguments, and the package variables that the reading takes, are together of bulk at most 1048576: NARROWER than '..Said'. Prove '..Said' where nothing that the law and all that it calls make is longer than what came in: it says more and counts as full. Else prove '..UptoSaid'. A law counts once. -/
mutual
def uptoBulk {H : Type} : DataW H → Nat
  | .lit (.string bytes) => bytes.length + 1
  | .lit _ => 1
  | .nil => 1
  | .ptr d => uptoBulk d + 1
  | .slice elems spare => uptoBulkAll elems + uptoBulkAll spare + 1
  | .agg parts => uptoBulkAll parts + 1
  | .iface _ d => uptoBulk d + 1
  | .map entries => uptoBulkEntries entries + 1
  | .held _ => 1
def uptoBulkAll {H : Type} : List (DataW H) → Nat
  | [] => 0
  | d :: r => uptoBulk d + uptoBulkAll r
def uptoBulkEntries {H : Type} : List (Lit × DataW H) → Nat
  | [] => 0
  | x :: r => uptoBulkEntry x + uptoBulkEntries r
def uptoBulkEntry {H : Type} : Lit × DataW H → Nat
  | (.string bytes, d) => bytes.length + uptoBulk d + 1
  | (_, d) => uptoBulk d + 1
 end
def uptoSmall : (H : Type) → List (DataW H) → Bool := fun _ ds => decide (uptoBulkAll ds ≤ 1048576)
def OpenSpec.upto (s : _root_.Go.ChangeSpec) : _root_.Go.OpenSpec := { _root_.Go.OpenSpec.ofChange s with cond := some uptoSmall }

/-- 'signatorylaw26.LockoutSpec', WHERE WHAT IT READS IS OF BULK AT MOST 1048576: true; the input reads as it did. -/
def lockoutSpecUptoRow : OpenClaim := { program := "ytlgamlamolfnlaagreat", sum := "5ca976557f6220c06729b8777a62e5145b32284b48fec575a2c07c9cf23e5ab0", func := "signatory/signatorylaw26.LockoutSpec", spec := "lockoutSpec", unfollowed := true, recurses := true, loops := true, apart := false, narrowed := true }
def LockoutSpecUptoSaid : Prop := lockoutSpecUptoRow.holds Tryz.pinned (OpenSpec.upto lockoutSpecSpec)

/-- 'signatorylaw26.LockoutSafeSpec', WHERE WHAT IT READS IS OF BULK AT MOST 1048576: true; the input reads as it did. -/
def lockoutSafeSpecUptoRow : OpenClaim := { program := "ytlgamlamolfnlaagreat", sum := "5ca976557f6220c06729b8777a62e5145b32284b48fec575a2c07c9cf23e5ab0", func := "signatory/signatorylaw26.LockoutSafeSpec", spec := "lockoutSafeSpec", unfollowed := true, recurses := true, loops := true, apart := false, narrowed := true }
def LockoutSafeSpecUptoSaid : Prop := lockoutSafeSpecUptoRow.holds Tryz.pinned (OpenSpec.upto lockoutSafeSpecSpec)

/-- 'signatorylaw26.LockoutEither', WHERE WHAT IT READS IS OF BULK AT MOST 1048576: true; the input reads as it did. -/
def lockoutEitherUptoRow : OpenClaim := { program := "ytlgamlamolfnlaagreat", sum := "5ca976557f6220c06729b8777a62e5145b32284b48fec575a2c07c9cf23e5ab0", func := "signatory/signatorylaw26.LockoutEither", spec := "lockoutEither", unfollowed := true, recurses := true, loops := true, apart := false, narrowed := true }
def LockoutEitherUptoSaid : Prop := lockoutEitherUptoRow.holds Tryz.pinned (OpenSpec.upto lockoutEitherSpec)

/-- 'signatorylaw26.LockoutMore', WHERE WHAT IT READS IS OF BULK AT MOST 1048576: true; the input reads as it did. -/
def lockoutMoreUptoRow : OpenClaim := { program := "ytlgamlamolfnlaagreat", sum := "5ca976557f6220c06729b8777a62e5145b32284b48fec575a2c07c9cf23e5ab0", func := "signatory/signatorylaw26.LockoutMore", spec := "lockoutMore", unfollowed := true, recurses := true, loops := true, apart := false, narrowed := true }
def LockoutMoreUptoSaid : Prop := lockoutMoreUptoRow.holds Tryz.pinned (OpenSpec.upto lockoutMoreSpec)

/-- 'signatorylaw26.LockoutBlocks', WHERE WHAT IT READS IS OF BULK AT MOST 1048576: true; the input reads as it did. -/
def lockoutBlocksUptoRow : OpenClaim := { program := "ytlgamlamolfnlaagreat", sum := "5ca976557f6220c06729b8777a62e5145b32284b48fec575a2c07c9cf23e5ab0", func := "signatory/signatorylaw26.LockoutBlocks", spec := "lockoutBlocks", unfollowed := true, recurses := true, loops := true, apart := false, narrowed := true }
def LockoutBlocksUptoSaid : Prop := lockoutBlocksUptoRow.holds Tryz.pinned (OpenSpec.upto lockoutBlocksSpec)

end Rows
end Go.Proofs.YtlgamlamolfnlaaGreat
