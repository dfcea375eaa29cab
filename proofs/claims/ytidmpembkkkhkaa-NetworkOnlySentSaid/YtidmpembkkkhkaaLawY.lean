/- NetworkOnlySent holds: for every input the call returns true, and each argument reads afterwards as it read before. No conditions. -/
import Derived.Test.YtidmpembkkkhkaaLawX
import Derived.Test.YtidmpembkkkhkaaNetOf
namespace Go.Proofs.Ytidmpembkkkhkaa
open Go Go.Proofs Go.Abs Go.RowKit
set_option linter.unusedVariables false
set_option linter.unusedSimpArgs false
theorem networkOnlySent_facts : lawFacts Try.prog [48, 52, 5] Try.f7 = true := by kernel_rfl
set_option maxRecDepth 100000 in
theorem networkOnlySent_lifted (os : Os) (started : os.Started) (H : Type) (enc : TypeId × Value → H) :
    ReturnsInHanded {} Try.checked os 7 .any (Rows.networkOnlySentSpec.pre6 enc Try.prog Try.f7 Rows.networkOnlySentRow.domain false) (Rows.networkOnlySentSpec.post enc Try.prog Try.f7 false true false false) := by
  refine returnsInHanded_of_change (C := Try.checked) own started (by kernel_rfl) Try.func7
    (ChangeSpec.witness6 (enc := enc) (C := Try.checked) false ⟨#[], #[.slice none 0 0], []⟩ 8 (by kernel_rfl) (by kernel_rfl) (by kernel_rfl) (by kernel_rfl)) ?_
  intro W base args ds gs before hval hW _ _
  refine contract_of _ networkOnlySent_facts rfl (fun ds hd => ?_) hval hW fun HT => ?_
  · rw [Try.params7] at hd
    match ds, hd with
    | [_], _ => rfl
  · rw [Try.params7] at HT
    generalize ds.map ofD = al at HT ⊢
    obtain ⟨a, r1, rfl, ha, h1⟩ := HT.cons_inv
    obtain rfl := h1.nil_inv
    obtain ⟨rows, rfl, hl, hr⟩ := ha.sl_inv Try.underlying48
    obtain ⟨l, rfl, hq⟩ := list_of (enc := encM) (Q := MvOK) fun r hm => by
      obtain ⟨b, e, hb⟩ := mv_of (hr r hm)
      exact ⟨b, e, hb⟩
    exact (onlysent_calls _ l _ hq (by simpa [maxLen] using hl)).mono fun _ _ h => h.2
theorem networkOnlySent_holds : Rows.NetworkOnlySentSaid :=
  OpenClaim.holds_of_wide 7 Try.f7 rfl rfl rfl rfl rfl rfl rfl ⟨rfl, rfl, rfl, rfl, rfl⟩ rfl rfl rfl rfl rfl (by kernel_rfl) Try.func7 (by kernel_rfl)
    (of_decide_eq_true (by kernel_rfl)) (by unfold Func.isWrapper; first | (rw [if_pos (by decide +kernel)]; kernel_rfl) | (rw [if_neg (by decide +kernel)]; exact ⟨rfl, rfl⟩))
    (fun os started H enc _ => networkOnlySent_lifted os started H enc)
#print axioms networkOnlySent_holds
end Go.Proofs.Ytidmpembkkkhkaa
