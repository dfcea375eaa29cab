/- SuccessionProof holds: for every input the call returns true, and each argument reads afterwards as it read before. No conditions. -/
import Derived.Test.YtaepdkjfaeepmaaMrDO
import Derived.Test.YtaepdkjfaeepmaaMrDR
namespace Go.Proofs.Ytaepdkjfaeepmaa
open Go Go.Proofs Go.Abs Go.RowKit
set_option linter.unusedVariables false
set_option linter.unusedSimpArgs false
theorem successionProof_facts : lawFacts Try.prog [26, 22, 50, 23, 24, 3, 29, 52, 5] Try.f6 = true := by kernel_rfl
set_option maxRecDepth 100000 in
theorem successionProof_lifted (os : Os) (started : os.Started) (H : Type) (enc : TypeId × Value → H) :
    ReturnsInHanded {} Try.checked os 6 .any (Rows.successionProofSpec.pre6 enc Try.prog Try.f6 Rows.successionProofRow.domain false) (Rows.successionProofSpec.post enc Try.prog Try.f6 false true false false) := by
  refine returnsInHanded_of_change (C := Try.checked) own started (by kernel_rfl) Try.func6
    (ChangeSpec.witness6 (enc := enc) (C := Try.checked) false ⟨#[], #[.agg #[.slice none 0 0, .slice none 0 0, .slice none 0 0, .slice none 0 0, .slice none 0 0], .slice none 0 0, .slice none 0 0, .slice none 0 0], []⟩ 8 (by kernel_rfl) (by kernel_rfl) (by kernel_rfl) (by kernel_rfl)) ?_
  intro W base args ds gs before hval hW _ _
  refine contract_of _ successionProof_facts rfl (fun ds hd => ?_) hval hW fun HT => ?_
  · rw [Try.params6] at hd
    match ds, hd with
    | [_, _, _, _], _ => rfl
  · rw [Try.params6] at HT
    generalize ds.map ofD = al at HT ⊢
    obtain ⟨a1, r1, rfl, p1, h1⟩ := HT.cons_inv
    obtain ⟨a2, r2, rfl, p2, h2⟩ := h1.cons_inv
    obtain ⟨a3, r3, rfl, p3, h3⟩ := h2.cons_inv
    obtain ⟨a4, r4, rfl, p4, h4⟩ := h3.cons_inv
    obtain rfl := h4.nil_inv
    obtain ⟨s, rfl, hs⟩ := estate_of p1
    obtain ⟨l2, rfl, hl2⟩ := stages_of p2
    obtain ⟨H, rfl, hHl, hH⟩ := ints_of p3
    obtain ⟨l4, rfl, hl4⟩ := stages_of p4
    exact (sucProof_calls _ s l2 H l4 _ hs hl2 hl4 hH hHl).mono fun _ _ h => h.2
theorem successionProof_holds : Rows.SuccessionProofSaid :=
  OpenClaim.holds_of_wide 6 Try.f6 rfl rfl rfl rfl rfl rfl rfl ⟨rfl, rfl, rfl, rfl, rfl⟩ rfl rfl rfl rfl rfl (by kernel_rfl) Try.func6 (by kernel_rfl)
    (of_decide_eq_true (by kernel_rfl)) (by unfold Func.isWrapper; first | (rw [if_pos (by decide +kernel)]; kernel_rfl) | (rw [if_neg (by decide +kernel)]; exact ⟨rfl, rfl⟩))
    (fun os started H enc _ => successionProof_lifted os started H enc)
#print axioms successionProof_holds
end Go.Proofs.Ytaepdkjfaeepmaa
