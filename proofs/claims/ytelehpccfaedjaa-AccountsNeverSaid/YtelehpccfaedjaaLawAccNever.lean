/- AccountsNever holds: for every input the call returns true, and each argument reads afterwards as it read before. No conditions. -/
import Derived.Test.YtelehpccfaedjaaMrCK
import Derived.Test.YtelehpccfaedjaaMrCG
namespace Go.Proofs.Ytelehpccfaedjaa
open Go Go.Proofs Go.Abs Go.RowKit
set_option linter.unusedVariables false
set_option linter.unusedSimpArgs false
theorem accountsNever_facts : lawFacts Try.prog [22, 40, 23, 42, 3, 4] Try.f8 = true := by kernel_rfl
set_option maxRecDepth 100000 in
theorem accountsNever_lifted (os : Os) (started : os.Started) (H : Type) (enc : TypeId × Value → H) :
    ReturnsInHanded {} Try.checked os 8 .any (Rows.accountsNeverSpec.pre6 enc Try.prog Try.f8 Rows.accountsNeverRow.domain false) (Rows.accountsNeverSpec.post enc Try.prog Try.f8 false true false false) := by
  refine returnsInHanded_of_change (C := Try.checked) own started (by kernel_rfl) Try.func8
    (ChangeSpec.witness6 (enc := enc) (C := Try.checked) false ⟨#[], #[.slice none 0 0, .slice none 0 0, .int .i64 0], []⟩ 8 (by kernel_rfl) (by kernel_rfl) (by kernel_rfl) (by kernel_rfl)) ?_
  intro W base args ds gs before hval hW _ _
  refine contract_of _ accountsNever_facts rfl (fun ds hd => ?_) hval hW fun HT => ?_
  · rw [Try.params8] at hd
    match ds, hd with
    | [_, _, _], _ => rfl
  · rw [Try.params8] at HT
    generalize ds.map ofD = al at HT ⊢
    obtain ⟨a1, r1, rfl, p1, h1⟩ := HT.cons_inv
    obtain ⟨a2, r2, rfl, p2, h2⟩ := h1.cons_inv
    obtain ⟨a3, r3, rfl, p3, h3⟩ := h2.cons_inv
    obtain rfl := h3.nil_inv
    obtain ⟨l, rfl⟩ := buds_of p1
    obtain ⟨u, rfl⟩ := uses_of p2
    obtain ⟨known, rfl⟩ := int_of p3
    exact (accNever_calls _ l u known _).mono fun _ _ h => h.2
theorem accountsNever_holds : Rows.AccountsNeverSaid :=
  OpenClaim.holds_of_wide 8 Try.f8 rfl rfl rfl rfl rfl rfl rfl ⟨rfl, rfl, rfl, rfl, rfl⟩ rfl rfl rfl rfl rfl (by kernel_rfl) Try.func8 (by kernel_rfl)
    (of_decide_eq_true (by kernel_rfl)) (by unfold Func.isWrapper; first | (rw [if_pos (by decide +kernel)]; kernel_rfl) | (rw [if_neg (by decide +kernel)]; exact ⟨rfl, rfl⟩))
    (fun os started H enc _ => accountsNever_lifted os started H enc)
#print axioms accountsNever_holds
end Go.Proofs.Ytelehpccfaedjaa
