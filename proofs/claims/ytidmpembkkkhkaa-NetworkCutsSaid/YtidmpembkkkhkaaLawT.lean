/- NetworkCuts holds: for every input the call returns true, and each argument reads afterwards as it read before. No conditions. -/
import Derived.Test.YtidmpembkkkhkaaLawS
import Derived.Test.YtidmpembkkkhkaaNetOf
namespace Go.Proofs.Ytidmpembkkkhkaa
open Go Go.Proofs Go.Abs Go.RowKit
set_option linter.unusedVariables false
set_option linter.unusedSimpArgs false
theorem networkCuts_facts : lawFacts Try.prog [25, 22, 28, 26, 5, 3, 23, 55, 42] Try.f5 = true := by kernel_rfl
set_option maxRecDepth 100000 in
theorem networkCuts_lifted (os : Os) (started : os.Started) (H : Type) (enc : TypeId × Value → H) :
    ReturnsInHanded {} Try.checked os 5 .any (Rows.networkCutsSpec.pre6 enc Try.prog Try.f5 Rows.networkCutsRow.domain false) (Rows.networkCutsSpec.post enc Try.prog Try.f5 false true false false) := by
  refine returnsInHanded_of_change (C := Try.checked) own started (by kernel_rfl) Try.func5
    (ChangeSpec.witness6 (enc := enc) (C := Try.checked) false ⟨#[], #[.agg #[.slice none 0 0, .slice none 0 0], .int .i64 0, .int .i64 0, .int .u64 0], []⟩ 8 (by kernel_rfl) (by kernel_rfl) (by kernel_rfl) (by kernel_rfl)) ?_
  intro W base args ds gs before hval hW _ _
  refine contract_of _ networkCuts_facts rfl (fun ds hd => ?_) hval hW fun HT => ?_
  · rw [Try.params5] at hd
    match ds, hd with
    | [_, _, _, _], _ => rfl
  · rw [Try.params5] at HT
    generalize ds.map ofD = al at HT ⊢
    obtain ⟨a, r1, rfl, ha, h1⟩ := HT.cons_inv
    obtain ⟨x, r2, rfl, hx, h2⟩ := h1.cons_inv
    obtain ⟨y, r3, rfl, hy, h3⟩ := h2.cons_inv
    obtain ⟨b, r4, rfl, hb, h4⟩ := h3.cons_inv
    obtain rfl := h4.nil_inv
    obtain ⟨n, rfl, n1, n2⟩ := net_of ha
    obtain ⟨x, rfl, _, _⟩ := hx.int_inv Try.underlying3
    obtain ⟨y, rfl, _, _⟩ := hy.int_inv Try.underlying3
    obtain ⟨m, rfl, m1, m2⟩ := hb.int_inv Try.underlying42
    simp only [IntKind.min, IntKind.max, IntKind.signed, IntKind.bits] at m1 m2
    obtain ⟨m, rfl⟩ := Int.eq_ofNat_of_zero_le (show 0 ≤ m by simpa using m1)
    exact (cuts_calls _ n x y m _ (by simp at m2; omega) n1 n2).mono fun _ _ h => h.2
theorem networkCuts_holds : Rows.NetworkCutsSaid :=
  OpenClaim.holds_of_wide 5 Try.f5 rfl rfl rfl rfl rfl rfl rfl ⟨rfl, rfl, rfl, rfl, rfl⟩ rfl rfl rfl rfl rfl (by kernel_rfl) Try.func5 (by kernel_rfl)
    (of_decide_eq_true (by kernel_rfl)) (by unfold Func.isWrapper; first | (rw [if_pos (by decide +kernel)]; kernel_rfl) | (rw [if_neg (by decide +kernel)]; exact ⟨rfl, rfl⟩))
    (fun os started H enc _ => networkCuts_lifted os started H enc)
#print axioms networkCuts_holds
end Go.Proofs.Ytidmpembkkkhkaa
