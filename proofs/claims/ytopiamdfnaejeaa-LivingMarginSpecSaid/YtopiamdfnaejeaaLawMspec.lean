/- LivingMarginSpec holds: for every input the call returns true, and each argument reads afterwards as it read before. No conditions. -/
import Derived.Test.YtopiamdfnaejeaaLivJ
import Derived.Test.YtopiamdfnaejeaaGateO
namespace Go.Proofs.Ytopiamdfnaejeaa
open Go Go.Proofs Go.Abs Go.RowKit
set_option linter.unusedVariables false
set_option linter.unusedSimpArgs false
theorem livingMarginSpec_facts : lawFacts Try.prog [24, 3, 22, 25] Try.f4 = true := by kernel_rfl
set_option maxRecDepth 100000 in
theorem livingMarginSpec_lifted (os : Os) (started : os.Started) (H : Type) (enc : TypeId × Value → H) :
    ReturnsInHanded {} Try.checked os 4 .any (Rows.livingMarginSpecSpec.pre6 enc Try.prog Try.f4 Rows.livingMarginSpecRow.domain false) (Rows.livingMarginSpecSpec.post enc Try.prog Try.f4 false true false false) := by
  refine returnsInHanded_of_change (C := Try.checked) own started (by kernel_rfl) Try.func4
    (ChangeSpec.witness6 (enc := enc) (C := Try.checked) false ⟨#[], #[.agg #[.int .i64 0, .int .i64 0, .slice none 0 0], .slice none 0 0], []⟩ 8 (by kernel_rfl) (by kernel_rfl) (by kernel_rfl) (by kernel_rfl)) ?_
  intro W base args ds gs before hval hW _ _
  refine contract_of _ livingMarginSpec_facts rfl (fun ds hd => ?_) hval hW fun HT => ?_
  · rw [Try.params4] at hd
    match ds, hd with
    | [_, _], _ => rfl
  · rw [Try.params4] at HT
    generalize ds.map ofD = al at HT ⊢
    obtain ⟨a, r1, rfl, ha, h1⟩ := HT.cons_inv
    obtain ⟨b, r2, rfl, hb, h2⟩ := h1.cons_inv
    obtain rfl := h2.nil_inv
    obtain ⟨g, rfl, hg⟩ := gate_of ha
    obtain ⟨l, rfl, hl⟩ := ints_of hb
    exact (marginSpec_calls _ g l _ hg hl).mono fun _ _ h => h.2
theorem livingMarginSpec_holds : Rows.LivingMarginSpecSaid :=
  OpenClaim.holds_of_wide 4 Try.f4 rfl rfl rfl rfl rfl rfl rfl ⟨rfl, rfl, rfl, rfl, rfl⟩ rfl rfl rfl rfl rfl (by kernel_rfl) Try.func4 (by kernel_rfl)
    (of_decide_eq_true (by kernel_rfl)) (by unfold Func.isWrapper; first | (rw [if_pos (by decide +kernel)]; kernel_rfl) | (rw [if_neg (by decide +kernel)]; exact ⟨rfl, rfl⟩))
    (fun os started H enc _ => livingMarginSpec_lifted os started H enc)
#print axioms livingMarginSpec_holds
end Go.Proofs.Ytopiamdfnaejeaa
