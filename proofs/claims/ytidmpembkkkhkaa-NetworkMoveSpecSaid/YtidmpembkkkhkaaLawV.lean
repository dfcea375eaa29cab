/- NetworkMoveSpec holds: for every input the call returns true, and each argument reads afterwards as it read before. No conditions. -/
import Derived.Test.YtidmpembkkkhkaaLawU
import Derived.Test.YtidmpembkkkhkaaNetOf
namespace Go.Proofs.Ytidmpembkkkhkaa
open Go Go.Proofs Go.Abs Go.RowKit
set_option linter.unusedVariables false
set_option linter.unusedSimpArgs false
theorem networkMoveSpec_facts : lawFacts Try.prog [25, 22, 28, 26, 5, 3, 23, 55, 4] Try.f6 = true := by kernel_rfl
set_option maxRecDepth 100000 in
theorem networkMoveSpec_lifted (os : Os) (started : os.Started) (H : Type) (enc : TypeId × Value → H) :
    ReturnsInHanded {} Try.checked os 6 .any (Rows.networkMoveSpecSpec.pre6 enc Try.prog Try.f6 Rows.networkMoveSpecRow.domain false) (Rows.networkMoveSpecSpec.post enc Try.prog Try.f6 false true false false) := by
  refine returnsInHanded_of_change (C := Try.checked) own started (by kernel_rfl) Try.func6
    (ChangeSpec.witness6 (enc := enc) (C := Try.checked) false ⟨#[], #[.agg #[.slice none 0 0, .slice none 0 0], .int .i64 0, .int .i64 0, .int .i64 0, .bool false], []⟩ 8 (by kernel_rfl) (by kernel_rfl) (by kernel_rfl) (by kernel_rfl)) ?_
  intro W base args ds gs before hval hW _ _
  refine contract_of _ networkMoveSpec_facts rfl (fun ds hd => ?_) hval hW fun HT => ?_
  · rw [Try.params6] at hd
    match ds, hd with
    | [_, _, _, _, _], _ => rfl
  · rw [Try.params6] at HT
    generalize ds.map ofD = al at HT ⊢
    obtain ⟨a, r1, rfl, ha, h1⟩ := HT.cons_inv
    obtain ⟨z, r2, rfl, hz, h2⟩ := h1.cons_inv
    obtain ⟨x, r3, rfl, hx, h3⟩ := h2.cons_inv
    obtain ⟨y, r4, rfl, hy, h4⟩ := h3.cons_inv
    obtain ⟨b, r5, rfl, hb, h5⟩ := h4.cons_inv
    obtain rfl := h5.nil_inv
    obtain ⟨n, rfl, n1, n2⟩ := net_of ha
    obtain ⟨z, rfl, _, _⟩ := hz.int_inv Try.underlying3
    obtain ⟨x, rfl, _, _⟩ := hx.int_inv Try.underlying3
    obtain ⟨y, rfl, _, _⟩ := hy.int_inv Try.underlying3
    obtain ⟨b, rfl⟩ := hb.bool_inv Try.underlying4
    exact (move_calls _ n z x y b _ n1 n2).mono fun _ _ h => h.2
theorem networkMoveSpec_holds : Rows.NetworkMoveSpecSaid :=
  OpenClaim.holds_of_wide 6 Try.f6 rfl rfl rfl rfl rfl rfl rfl ⟨rfl, rfl, rfl, rfl, rfl⟩ rfl rfl rfl rfl rfl (by kernel_rfl) Try.func6 (by kernel_rfl)
    (of_decide_eq_true (by kernel_rfl)) (by unfold Func.isWrapper; first | (rw [if_pos (by decide +kernel)]; kernel_rfl) | (rw [if_neg (by decide +kernel)]; exact ⟨rfl, rfl⟩))
    (fun os started H enc _ => networkMoveSpec_lifted os started H enc)
#print axioms networkMoveSpec_holds
end Go.Proofs.Ytidmpembkkkhkaa
