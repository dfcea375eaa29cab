/- Texts joined: MinR, MinS. No conditions. -/
import Derived.Test.YtelehpccfaedjaaMrO
/- The reference's small functions on lists of sets. No conditions. -/
set_option linter.unusedSimpArgs false
set_option linter.unusedVariables false
namespace Go.Proofs.Ytelehpccfaedjaa
open Go Go.Proofs Go.Abs

def sameF (a b : List (List Int)) : Bool := decide (a = b)
def fewF (l : List (List Int)) : Bool := l.all (fun s => decide (s.length ≤ 12)) && decide (l.length ≤ 40)
end Go.Proofs.Ytelehpccfaedjaa

/- The reference's smallest sets, and what it says of lists that agree. No conditions. -/
set_option linter.unusedSimpArgs false
set_option linter.unusedVariables false
namespace Go.Proofs.Ytelehpccfaedjaa
open Go Go.Proofs Go.Abs

def fineF (g : Gt) (b : Bool) : List Int → Bool := if b then blkP g else holdP g
def smallR (g : Gt) (b : Bool) : List (List Int) × Int := if errF g = 0 then (if 256 < (minsF (pplF g) (fineF g b)).length then ([], 2) else (minsF (pplF g) (fineF g b), 0)) else ([], errF g)
def encS (r : List (List Int) × Int) : AV := .tuple [.sl (encII r.1) .free, .int .i64 r.2]
theorem allF_le {l : List Int} (h : l.length ≤ 12) : (allF l).length ≤ 60000 := by have := allUp_len l h (l.length + 1); unfold allF; omega
def encA (r : Bool × Int) : AV := .tuple [.bool r.1, .int .i64 r.2]
end Go.Proofs.Ytelehpccfaedjaa
