/- FormulasDual holds: for every input the call returns true, and each argument reads afterwards as it read before. No conditions. -/
import Derived.Test.YtkcpnmphlanocaaLawH
import Derived.Test.YtkcpnmphlanocaaGateOf
namespace Go.Proofs.Ytkcpnmphlanocaa
open Go Go.Proofs Go.Abs Go.RowKit
set_option linter.unusedVariables false
set_option linter.unusedSimpArgs false
theorem dual_facts : lawFacts Try.prog [24, 3, 22, 25] Try.f4 = true := by kernel_rfl
set_option maxRecDepth 100000 in
theorem dual_lifted (os : Os) (started : os.Started) (H : Type) (enc : TypeId × Value → H) :
    ReturnsInHanded {} Try.checked os 4 .any (Rows.formulasDualSpec.pre6 enc Try.prog Try.f4 Rows.formulasDualRow.domain false) (Rows.formulasDualSpec.post enc Try.prog Try.f4 false true false false) := by
  refine returnsInHanded_of_change (C := Try.checked) own started (by kernel_rfl) Try.func4
    (ChangeSpec.witness6 (enc := enc) (C := Try.checked) false ⟨#[], #[.agg #[.int .i64 0, .int .i64 0, .slice none 0 0], .int .u64 0], []⟩ 8 (by kernel_rfl) (by kernel_rfl) (by kernel_rfl) (by kernel_rfl)) ?_
  intro W base args ds gs before hval hW _ _
  refine contract_of _ dual_facts rfl (fun ds hd => ?_) hval hW fun HT => ?_
  · rw [Try.params4] at hd
    match ds, hd with
    | [_, _], _ => rfl
  · rw [Try.params4] at HT
    generalize ds.map ofD = al at HT ⊢
    obtain ⟨a, r1, rfl, ha, h1⟩ := HT.cons_inv
    obtain ⟨b, r2, rfl, hb, h2⟩ := h1.cons_inv
    obtain rfl := h2.nil_inv
    obtain ⟨g, rfl, hg⟩ := gate_of ha
    obtain ⟨n, rfl, n1, n2⟩ := hb.int_inv Try.underlying25
    simp only [IntKind.min, IntKind.max, IntKind.signed, IntKind.bits] at n1 n2
    obtain ⟨n, rfl⟩ := Int.eq_ofNat_of_zero_le (show 0 ≤ n by simpa using n1)
    exact (duallaw_calls _ g n _ hg (by simp at n2; omega)).mono fun _ _ h => h.2
theorem dual_holds : Rows.FormulasDualSaid :=
  OpenClaim.holds_of_wide 4 Try.f4 rfl rfl rfl rfl rfl rfl rfl ⟨rfl, rfl, rfl, rfl, rfl⟩ rfl rfl rfl rfl rfl (by kernel_rfl) Try.func4 (by kernel_rfl)
    (of_decide_eq_true (by kernel_rfl)) (by unfold Func.isWrapper; first | (rw [if_pos (by decide +kernel)]; kernel_rfl) | (rw [if_neg (by decide +kernel)]; exact ⟨rfl, rfl⟩))
    (fun os started H enc _ => dual_lifted os started H enc)
#print axioms dual_holds
end Go.Proofs.Ytkcpnmphlanocaa
