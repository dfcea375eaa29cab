/- Texts joined: PerK. No conditions. -/
import Derived.Test.YtplllkjobpjaoaaGreatDoorMrEJ
/- Values without a border between them. No conditions. -/
set_option linter.unusedSimpArgs false
set_option linter.unusedVariables false
namespace Go.Proofs.YtplllkjobpjaoaaGreatDoor
open Go Go.Proofs Go.Abs

mutual
def betwF (v w : Int) : Ex → Bool
  | .mk k n _ _ l => betwFs v w l || (decide (k = 4) && decide (v ≤ n ∧ n < w))
def betwFs (v w : Int) : List Ex → Bool
  | [] => false
  | x :: r => betwF v w x || betwFs v w r
end
theorem rule_at {p : Pol} {kind : Int} (hc : checkF p = 0) (hk : 0 ≤ kind ∧ kind < p.kinds.length) : ∃ r, p.rules[kind.toNat]? = some r ∧ (p.rules.map encRl)[kind.toNat]? = some (encRl r) ∧ r ∈ p.rules := by
  have hlen := check_lens hc
  have hlt : kind.toNat < p.rules.length := by omega
  refine ⟨p.rules[kind.toNat], List.getElem?_eq_getElem hlt, ?_, List.getElem_mem hlt⟩
  rw [List.getElem?_map, List.getElem?_eq_getElem hlt, Option.map_some]
end Go.Proofs.YtplllkjobpjaoaaGreatDoor
