/- LivingOrDead holds: for every input the call returns true, and each argument reads afterwards as it read before. No conditions. -/
import Derived.Test.YtopiamdfnaejeaaLivM
import Derived.Test.YtopiamdfnaejeaaGateO
namespace Go.Proofs.Ytopiamdfnaejeaa
open Go Go.Proofs Go.Abs Go.RowKit
set_option linter.unusedVariables false
set_option linter.unusedSimpArgs false
theorem livingOrDead_facts : lawFacts Try.prog [24, 3, 22, 25] Try.f5 = true := by kernel_rfl
set_option maxRecDepth 100000 in
theorem livingOrDead_lifted (os : Os) (started : os.Started) (H : Type) (enc : TypeId × Value → H) :
    ReturnsInHanded {} Try.checked os 5 .any (Rows.livingOrDeadSpec.pre6 enc Try.prog Try.f5 Rows.livingOrDeadRow.domain false) (Rows.livingOrDeadSpec.post enc Try.prog Try.f5 false true false false) := by
  refine returnsInHanded_of_change (C := Try.checked) own started (by kernel_rfl) Try.func5
    (ChangeSpec.witness6 (enc := enc) (C := Try.checked) false ⟨#[], #[.agg #[.int .i64 0, .int .i64 0, .slice none 0 0], .slice none 0 0], []⟩ 8 (by kernel_rfl) (by kernel_rfl) (by kernel_rfl) (by kernel_rfl)) ?_
  intro W base args ds gs before hval hW _ _
  refine contract_of _ livingOrDead_facts rfl (fun ds hd => ?_) hval hW fun HT => ?_
  · rw [Try.params5] at hd
    match ds, hd with
    | [_, _], _ => rfl
  · rw [Try.params5] at HT
    generalize ds.map ofD = al at HT ⊢
    obtain ⟨a, r1, rfl, ha, h1⟩ := HT.cons_inv
    obtain ⟨b, r2, rfl, hb, h2⟩ := h1.cons_inv
    obtain ⟨g, rfl, hg⟩ := gate_of ha
    obtain ⟨l, rfl, hl⟩ := ints_of hb
    obtain rfl := h2.nil_inv
    exact (orDead_calls _ g l _ hg hl).mono fun _ _ h => h.2
theorem livingOrDead_holds : Rows.LivingOrDeadSaid :=
  OpenClaim.holds_of_wide 5 Try.f5 rfl rfl rfl rfl rfl rfl rfl ⟨rfl, rfl, rfl, rfl, rfl⟩ rfl rfl rfl rfl rfl (by kernel_rfl) Try.func5 (by kernel_rfl)
    (of_decide_eq_true (by kernel_rfl)) (by unfold Func.isWrapper; first | (rw [if_pos (by decide +kernel)]; kernel_rfl) | (rw [if_neg (by decide +kernel)]; exact ⟨rfl, rfl⟩))
    (fun os started H enc _ => livingOrDead_lifted os started H enc)
#print axioms livingOrDead_holds
end Go.Proofs.Ytopiamdfnaejeaa
