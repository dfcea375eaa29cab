/- AccountsKnown holds: for every input the call returns true, and each argument reads afterwards as it read before. No conditions. -/
import Derived.Test.YtelehpccfaedjaaMrCL
import Derived.Test.YtelehpccfaedjaaMrCG
namespace Go.Proofs.Ytelehpccfaedjaa
open Go Go.Proofs Go.Abs Go.RowKit
set_option linter.unusedVariables false
set_option linter.unusedSimpArgs false
theorem accountsKnown_facts : lawFacts Try.prog [22, 40, 23, 42, 3, 4, 5] Try.f5 = true := by kernel_rfl
set_option maxRecDepth 100000 in
theorem accountsKnown_lifted (os : Os) (started : os.Started) (H : Type) (enc : TypeId × Value → H) :
    ReturnsInHanded {} Try.checked os 5 .any (Rows.accountsKnownSpec.pre6 enc Try.prog Try.f5 Rows.accountsKnownRow.domain false) (Rows.accountsKnownSpec.post enc Try.prog Try.f5 false true false false) := by
  refine returnsInHanded_of_change (C := Try.checked) own started (by kernel_rfl) Try.func5
    (ChangeSpec.witness6 (enc := enc) (C := Try.checked) false ⟨#[], #[.slice none 0 0, .slice none 0 0, .int .i64 0, .int .i64 0, .int .i64 0, .int .u8 0], []⟩ 8 (by kernel_rfl) (by kernel_rfl) (by kernel_rfl) (by kernel_rfl)) ?_
  intro W base args ds gs before hval hW _ _
  refine contract_of _ accountsKnown_facts rfl (fun ds hd => ?_) hval hW fun HT => ?_
  · rw [Try.params5] at hd
    match ds, hd with
    | [_, _, _, _, _, _], _ => rfl
  · rw [Try.params5] at HT
    generalize ds.map ofD = al at HT ⊢
    obtain ⟨a1, r1, rfl, p1, h1⟩ := HT.cons_inv
    obtain ⟨a2, r2, rfl, p2, h2⟩ := h1.cons_inv
    obtain ⟨a3, r3, rfl, p3, h3⟩ := h2.cons_inv
    obtain ⟨a4, r4, rfl, p4, h4⟩ := h3.cons_inv
    obtain ⟨a5, r5, rfl, p5, h5⟩ := h4.cons_inv
    obtain ⟨a6, r6, rfl, p6, h6⟩ := h5.cons_inv
    obtain rfl := h6.nil_inv
    obtain ⟨l, rfl⟩ := buds_of p1
    obtain ⟨u, rfl⟩ := uses_of p2
    obtain ⟨no, rfl⟩ := int_of p3
    obtain ⟨p, rfl⟩ := int_of p4
    obtain ⟨known, rfl⟩ := int_of p5
    obtain ⟨turn, rfl, hu1, hu2⟩ := u8_of p6
    exact (accKnown_calls _ l u no p known turn _ hu1 hu2).mono fun _ _ h => h.2
theorem accountsKnown_holds : Rows.AccountsKnownSaid :=
  OpenClaim.holds_of_wide 5 Try.f5 rfl rfl rfl rfl rfl rfl rfl ⟨rfl, rfl, rfl, rfl, rfl⟩ rfl rfl rfl rfl rfl (by kernel_rfl) Try.func5 (by kernel_rfl)
    (of_decide_eq_true (by kernel_rfl)) (by unfold Func.isWrapper; first | (rw [if_pos (by decide +kernel)]; kernel_rfl) | (rw [if_neg (by decide +kernel)]; exact ⟨rfl, rfl⟩))
    (fun os started H enc _ => accountsKnown_lifted os started H enc)
#print axioms accountsKnown_holds
end Go.Proofs.Ytelehpccfaedjaa
