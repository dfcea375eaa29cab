/- SuccessionSafe holds: for every input the call returns true, and each argument reads afterwards as it read before. No conditions. -/
import Derived.Test.YtaepdkjfaeepmaaMrDT
import Derived.Test.YtaepdkjfaeepmaaMrDR
namespace Go.Proofs.Ytaepdkjfaeepmaa
open Go Go.Proofs Go.Abs Go.RowKit
set_option linter.unusedVariables false
set_option linter.unusedSimpArgs false
theorem successionSafe_facts : lawFacts Try.prog [26, 22, 50, 23, 24, 3, 29, 52, 5] Try.f7 = true := by kernel_rfl
set_option maxRecDepth 100000 in
theorem successionSafe_lifted (os : Os) (started : os.Started) (H : Type) (enc : TypeId × Value → H) :
    ReturnsInHanded {} Try.checked os 7 .any (Rows.successionSafeSpec.pre6 enc Try.prog Try.f7 Rows.successionSafeRow.domain false) (Rows.successionSafeSpec.post enc Try.prog Try.f7 false true false false) := by
  refine returnsInHanded_of_change (C := Try.checked) own started (by kernel_rfl) Try.func7
    (ChangeSpec.witness6 (enc := enc) (C := Try.checked) false ⟨#[], #[.agg #[.slice none 0 0, .slice none 0 0, .slice none 0 0, .slice none 0 0, .slice none 0 0]], []⟩ 8 (by kernel_rfl) (by kernel_rfl) (by kernel_rfl) (by kernel_rfl)) ?_
  intro W base args ds gs before hval hW _ _
  refine contract_of _ successionSafe_facts rfl (fun ds hd => ?_) hval hW fun HT => ?_
  · rw [Try.params7] at hd
    match ds, hd with
    | [_], _ => rfl
  · rw [Try.params7] at HT
    generalize ds.map ofD = al at HT ⊢
    obtain ⟨a1, r1, rfl, p1, h1⟩ := HT.cons_inv
    obtain rfl := h1.nil_inv
    obtain ⟨s, rfl, hs⟩ := estate_of p1
    exact (sucSafe_calls _ s _ hs).mono fun _ _ h => h.2
theorem successionSafe_holds : Rows.SuccessionSafeSaid :=
  OpenClaim.holds_of_wide 7 Try.f7 rfl rfl rfl rfl rfl rfl rfl ⟨rfl, rfl, rfl, rfl, rfl⟩ rfl rfl rfl rfl rfl (by kernel_rfl) Try.func7 (by kernel_rfl)
    (of_decide_eq_true (by kernel_rfl)) (by unfold Func.isWrapper; first | (rw [if_pos (by decide +kernel)]; kernel_rfl) | (rw [if_neg (by decide +kernel)]; exact ⟨rfl, rfl⟩))
    (fun os started H enc _ => successionSafe_lifted os started H enc)
#print axioms successionSafe_holds
end Go.Proofs.Ytaepdkjfaeepmaa
