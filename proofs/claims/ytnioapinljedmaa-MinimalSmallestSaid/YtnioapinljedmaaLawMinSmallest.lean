/- MinimalSmallest holds: for every input the call returns true, and each argument reads afterwards as it read before. No conditions. -/
import Derived.Test.YtnioapinljedmaaMrV
import Derived.Test.YtnioapinljedmaaMrT
namespace Go.Proofs.Ytnioapinljedmaa
open Go Go.Proofs Go.Abs Go.RowKit
set_option linter.unusedVariables false
set_option linter.unusedSimpArgs false
theorem minimalSmallest_facts : lawFacts Try.prog [24, 3, 22] Try.f13 = true := by kernel_rfl
set_option maxRecDepth 100000 in
theorem minimalSmallest_lifted (os : Os) (started : os.Started) (H : Type) (enc : TypeId × Value → H) :
    ReturnsInHanded {} Try.checked os 13 .any (Rows.minimalSmallestSpec.pre6 enc Try.prog Try.f13 Rows.minimalSmallestRow.domain false) (Rows.minimalSmallestSpec.post enc Try.prog Try.f13 false true false false) := by
  refine returnsInHanded_of_change (C := Try.checked) own started (by kernel_rfl) Try.func13
    (ChangeSpec.witness6 (enc := enc) (C := Try.checked) false ⟨#[], #[.agg #[.int .i64 0, .int .i64 0, .slice none 0 0]], []⟩ 8 (by kernel_rfl) (by kernel_rfl) (by kernel_rfl) (by kernel_rfl)) ?_
  intro W base args ds gs before hval hW _ _
  refine contract_of _ minimalSmallest_facts rfl (fun ds hd => ?_) hval hW fun HT => ?_
  · rw [Try.params13] at hd
    match ds, hd with
    | [_], _ => rfl
  · rw [Try.params13] at HT
    generalize ds.map ofD = al at HT ⊢
    obtain ⟨a, r1, rfl, ha, h1⟩ := HT.cons_inv
    obtain rfl := h1.nil_inv
    obtain ⟨g, rfl, hg⟩ := gate_of ha
    exact (minSmallest_calls _ g _ hg).mono fun _ _ h => h.2
theorem minimalSmallest_holds : Rows.MinimalSmallestSaid :=
  OpenClaim.holds_of_wide 13 Try.f13 rfl rfl rfl rfl rfl rfl rfl ⟨rfl, rfl, rfl, rfl, rfl⟩ rfl rfl rfl rfl rfl (by kernel_rfl) Try.func13 (by kernel_rfl)
    (of_decide_eq_true (by kernel_rfl)) (by unfold Func.isWrapper; first | (rw [if_pos (by decide +kernel)]; kernel_rfl) | (rw [if_neg (by decide +kernel)]; exact ⟨rfl, rfl⟩))
    (fun os started H enc _ => minimalSmallest_lifted os started H enc)
#print axioms minimalSmallest_holds
end Go.Proofs.Ytnioapinljedmaa
