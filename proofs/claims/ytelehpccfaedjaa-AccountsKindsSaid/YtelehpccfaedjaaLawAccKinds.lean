/- AccountsKinds holds: for every input the call returns true, and each argument reads afterwards as it read before. No conditions. -/
import Derived.Test.YtelehpccfaedjaaMrCI
import Derived.Test.YtelehpccfaedjaaMrCG
namespace Go.Proofs.Ytelehpccfaedjaa
open Go Go.Proofs Go.Abs Go.RowKit
set_option linter.unusedVariables false
set_option linter.unusedSimpArgs false
theorem accountsKinds_facts : lawFacts Try.prog [22, 40, 23, 42, 3, 4] Try.f7 = true := by kernel_rfl
set_option maxRecDepth 100000 in
theorem accountsKinds_lifted (os : Os) (started : os.Started) (H : Type) (enc : TypeId × Value → H) :
    ReturnsInHanded {} Try.checked os 7 .any (Rows.accountsKindsSpec.pre6 enc Try.prog Try.f7 Rows.accountsKindsRow.domain false) (Rows.accountsKindsSpec.post enc Try.prog Try.f7 false true false false) := by
  refine returnsInHanded_of_change (C := Try.checked) own started (by kernel_rfl) Try.func7
    (ChangeSpec.witness6 (enc := enc) (C := Try.checked) false ⟨#[], #[.slice none 0 0, .slice none 0 0, .int .i64 0, .int .i64 0, .int .i64 0], []⟩ 8 (by kernel_rfl) (by kernel_rfl) (by kernel_rfl) (by kernel_rfl)) ?_
  intro W base args ds gs before hval hW _ _
  refine contract_of _ accountsKinds_facts rfl (fun ds hd => ?_) hval hW fun HT => ?_
  · rw [Try.params7] at hd
    match ds, hd with
    | [_, _, _, _, _], _ => rfl
  · rw [Try.params7] at HT
    generalize ds.map ofD = al at HT ⊢
    obtain ⟨a1, r1, rfl, p1, h1⟩ := HT.cons_inv
    obtain ⟨a2, r2, rfl, p2, h2⟩ := h1.cons_inv
    obtain ⟨a3, r3, rfl, p3, h3⟩ := h2.cons_inv
    obtain ⟨a4, r4, rfl, p4, h4⟩ := h3.cons_inv
    obtain ⟨a5, r5, rfl, p5, h5⟩ := h4.cons_inv
    obtain rfl := h5.nil_inv
    obtain ⟨l, rfl, hl⟩ := buds_of' p1
    obtain ⟨u, rfl⟩ := uses_of p2
    obtain ⟨no, rfl⟩ := int_of p3
    obtain ⟨at_, rfl⟩ := int_of p4
    obtain ⟨known, rfl⟩ := int_of p5
    exact (accKinds_calls _ l u no at_ known _ hl).mono fun _ _ h => h.2
theorem accountsKinds_holds : Rows.AccountsKindsSaid :=
  OpenClaim.holds_of_wide 7 Try.f7 rfl rfl rfl rfl rfl rfl rfl ⟨rfl, rfl, rfl, rfl, rfl⟩ rfl rfl rfl rfl rfl (by kernel_rfl) Try.func7 (by kernel_rfl)
    (of_decide_eq_true (by kernel_rfl)) (by unfold Func.isWrapper; first | (rw [if_pos (by decide +kernel)]; kernel_rfl) | (rw [if_neg (by decide +kernel)]; exact ⟨rfl, rfl⟩))
    (fun os started H enc _ => accountsKinds_lifted os started H enc)
#print axioms accountsKinds_holds
end Go.Proofs.Ytelehpccfaedjaa
