/- CompareOrder holds: for every input the call returns true, and each argument reads afterwards as it read before. No conditions. -/
import Derived.Test.YtelehpccfaedjaaCmpM
import Derived.Test.YtelehpccfaedjaaMrT
namespace Go.Proofs.Ytelehpccfaedjaa
open Go Go.Proofs Go.Abs Go.RowKit
set_option linter.unusedVariables false
set_option linter.unusedSimpArgs false
theorem compareOrder_facts : lawFacts Try.prog [54, 3, 52] Try.f11 = true := by kernel_rfl
set_option maxRecDepth 100000 in
theorem compareOrder_lifted (os : Os) (started : os.Started) (H : Type) (enc : TypeId × Value → H) :
    ReturnsInHanded {} Try.checked os 11 .any (Rows.compareOrderSpec.pre6 enc Try.prog Try.f11 Rows.compareOrderRow.domain false) (Rows.compareOrderSpec.post enc Try.prog Try.f11 false true false false) := by
  refine returnsInHanded_of_change (C := Try.checked) own started (by kernel_rfl) Try.func11
    (ChangeSpec.witness6 (enc := enc) (C := Try.checked) false ⟨#[], #[.agg #[.int .i64 0, .int .i64 0, .slice none 0 0], .agg #[.int .i64 0, .int .i64 0, .slice none 0 0], .agg #[.int .i64 0, .int .i64 0, .slice none 0 0]], []⟩ 8 (by kernel_rfl) (by kernel_rfl) (by kernel_rfl) (by kernel_rfl)) ?_
  intro W base args ds gs before hval hW _ _
  refine contract_of _ compareOrder_facts rfl (fun ds hd => ?_) hval hW fun HT => ?_
  · rw [Try.params11] at hd
    match ds, hd with
    | [_, _, _], _ => rfl
  · rw [Try.params11] at HT
    generalize ds.map ofD = al at HT ⊢
    obtain ⟨a, r1, rfl, ha, h1⟩ := HT.cons_inv
    obtain ⟨b, r2, rfl, hb, h2⟩ := h1.cons_inv
    obtain ⟨c, r3, rfl, hc, h3⟩ := h2.cons_inv
    obtain rfl := h3.nil_inv
    obtain ⟨g, rfl, hg⟩ := gate_of ha
    obtain ⟨g2, rfl, hg2⟩ := gate_of hb
    obtain ⟨g3, rfl, hg3⟩ := gate_of hc
    exact (cmpOrder_calls _ g g2 g3 _ hg hg2 hg3).mono fun _ _ h => h.2
theorem compareOrder_holds : Rows.CompareOrderSaid :=
  OpenClaim.holds_of_wide 11 Try.f11 rfl rfl rfl rfl rfl rfl rfl ⟨rfl, rfl, rfl, rfl, rfl⟩ rfl rfl rfl rfl rfl (by kernel_rfl) Try.func11 (by kernel_rfl)
    (of_decide_eq_true (by kernel_rfl)) (by unfold Func.isWrapper; first | (rw [if_pos (by decide +kernel)]; kernel_rfl) | (rw [if_neg (by decide +kernel)]; exact ⟨rfl, rfl⟩))
    (fun os started H enc _ => compareOrder_lifted os started H enc)
#print axioms compareOrder_holds
end Go.Proofs.Ytelehpccfaedjaa
