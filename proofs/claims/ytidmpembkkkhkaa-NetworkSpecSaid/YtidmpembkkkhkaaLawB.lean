/- NetworkSpec holds: for every input the call returns true, and each argument reads afterwards as it read before. No conditions. -/
import Derived.Test.YtidmpembkkkhkaaLawA
import Derived.Test.YtidmpembkkkhkaaNetOf
namespace Go.Proofs.Ytidmpembkkkhkaa
open Go Go.Proofs Go.Abs Go.RowKit
set_option linter.unusedVariables false
set_option linter.unusedSimpArgs false
theorem networkSpec_facts : lawFacts Try.prog [25, 22, 28, 26, 5, 3, 23, 55] Try.f3 = true := by kernel_rfl
set_option maxRecDepth 100000 in
theorem networkSpec_lifted (os : Os) (started : os.Started) (H : Type) (enc : TypeId × Value → H) :
    ReturnsInHanded {} Try.checked os 3 .any (Rows.networkSpecSpec.pre6 enc Try.prog Try.f3 Rows.networkSpecRow.domain false) (Rows.networkSpecSpec.post enc Try.prog Try.f3 false true false false) := by
  refine returnsInHanded_of_change (C := Try.checked) own started (by kernel_rfl) Try.func3
    (ChangeSpec.witness6 (enc := enc) (C := Try.checked) false ⟨#[], #[.agg #[.slice none 0 0, .slice none 0 0], .agg #[.int .i64 0, .int .i64 0, .slice none 0 0]], []⟩ 8 (by kernel_rfl) (by kernel_rfl) (by kernel_rfl) (by kernel_rfl)) ?_
  intro W base args ds gs before hval hW _ _
  refine contract_of _ networkSpec_facts rfl (fun ds hd => ?_) hval hW fun HT => ?_
  · rw [Try.params3] at hd
    match ds, hd with
    | [_, _], _ => rfl
  · rw [Try.params3] at HT
    generalize ds.map ofD = al at HT ⊢
    obtain ⟨a, r1, rfl, ha, h1⟩ := HT.cons_inv
    obtain ⟨b, r2, rfl, hb, h2⟩ := h1.cons_inv
    obtain rfl := h2.nil_inv
    obtain ⟨n, rfl, n1, n2⟩ := net_of ha
    obtain ⟨p, rfl⟩ := pkt_of hb
    exact (spec_calls _ n p _ n1 n2).mono fun _ _ h => h.2
theorem networkSpec_holds : Rows.NetworkSpecSaid :=
  OpenClaim.holds_of_wide 3 Try.f3 rfl rfl rfl rfl rfl rfl rfl ⟨rfl, rfl, rfl, rfl, rfl⟩ rfl rfl rfl rfl rfl (by kernel_rfl) Try.func3 (by kernel_rfl)
    (of_decide_eq_true (by kernel_rfl)) (by unfold Func.isWrapper; first | (rw [if_pos (by decide +kernel)]; kernel_rfl) | (rw [if_neg (by decide +kernel)]; exact ⟨rfl, rfl⟩))
    (fun os started H enc _ => networkSpec_lifted os started H enc)
#print axioms networkSpec_holds
end Go.Proofs.Ytidmpembkkkhkaa
