/- Texts joined: PerI, PerJ. No conditions. -/
import Derived.Test.YtjdhgaflenhljaaGreatDoorMrEI
/- The law's own examples. No conditions. -/
set_option linter.unusedSimpArgs false
set_option linter.unusedVariables false
namespace Go.Proofs.YtjdhgaflenhljaaGreatDoor
open Go Go.Proofs Go.Abs

def someP (no : Int) : Ex := .mk 1 0 no (if no = 0 then [97] else [98]) []
def plainP (x : Ex) : Pol := ⟨[112], [[107]], [[97], [98]], [⟨[107], 0, 0, x⟩], someP 1, 1⟩
def mayHs : List (List Hd) := [[⟨1, 1⟩, ⟨2, 3⟩], [⟨5, 2⟩]]
def mayF (x : Ex) (value : Int) (who : List Int) : Bool := ((permF (plainP x) 0 value mayHs who).2 == 0) && (permF (plainP x) 0 value mayHs who).1
/-! ### What the examples say -/
def wX : Ex := .mk 2 4 0 [97] []
def bX : Ex := .mk 3 2 0 [] [someP 0, someP 1]
def uX : Ex := .mk 4 10 0 [] [someP 0, bX]
theorem m1 : mayF (someP 0) 0 [2] = true := by decide +kernel
theorem m2 : mayF (someP 0) 0 [5] = false := by decide +kernel
theorem m3 : mayF (someP 0) 0 [] = false := by decide +kernel
theorem m4 : mayF wX 0 [2] = false := by decide +kernel
theorem m5 : mayF wX 0 [1, 2] = true := by decide +kernel
theorem m6 : mayF bX 0 [1, 2] = false := by decide +kernel
theorem m7 : mayF bX 0 [1, 5] = true := by decide +kernel
theorem m8 : mayF uX 10 [1] = true := by decide +kernel
theorem m9 : mayF uX 11 [1] = false := by decide +kernel
theorem m10 : mayF uX 11 [2, 5] = true := by decide +kernel
end Go.Proofs.YtjdhgaflenhljaaGreatDoor

/- The law's examples, called; its right. No conditions. -/
set_option linter.unusedSimpArgs false
set_option linter.unusedVariables false
namespace Go.Proofs.YtjdhgaflenhljaaGreatDoor
open Go Go.Proofs Go.Abs

/-- Lists of holders fit. -/
structure ShH (hs : List (List Hd)) : Prop where
  n : hs.length ≤ 9223372036854775807
  l : ∀ l ∈ hs, l.length ≤ 9223372036854775807
end Go.Proofs.YtjdhgaflenhljaaGreatDoor
