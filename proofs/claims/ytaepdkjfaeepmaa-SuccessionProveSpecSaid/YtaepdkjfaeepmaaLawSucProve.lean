/- SuccessionProveSpec holds: for every input the call returns true, and each argument reads afterwards as it read before. No conditions. -/
import Derived.Test.YtaepdkjfaeepmaaMrDN
import Derived.Test.YtaepdkjfaeepmaaMrDR
namespace Go.Proofs.Ytaepdkjfaeepmaa
open Go Go.Proofs Go.Abs Go.RowKit
set_option linter.unusedVariables false
set_option linter.unusedSimpArgs false
theorem successionProveSpec_facts : lawFacts Try.prog [26, 22, 50, 23, 24, 3, 29, 52, 5] Try.f4 = true := by kernel_rfl
set_option maxRecDepth 100000 in
theorem successionProveSpec_lifted (os : Os) (started : os.Started) (H : Type) (enc : TypeId × Value → H) :
    ReturnsInHanded {} Try.checked os 4 .any (Rows.successionProveSpecSpec.pre6 enc Try.prog Try.f4 Rows.successionProveSpecRow.domain false) (Rows.successionProveSpecSpec.post enc Try.prog Try.f4 false true false false) := by
  refine returnsInHanded_of_change (C := Try.checked) own started (by kernel_rfl) Try.func4
    (ChangeSpec.witness6 (enc := enc) (C := Try.checked) false ⟨#[], #[.agg #[.slice none 0 0, .slice none 0 0, .slice none 0 0, .slice none 0 0, .slice none 0 0], .slice none 0 0, .slice none 0 0], []⟩ 8 (by kernel_rfl) (by kernel_rfl) (by kernel_rfl) (by kernel_rfl)) ?_
  intro W base args ds gs before hval hW _ _
  refine contract_of _ successionProveSpec_facts rfl (fun ds hd => ?_) hval hW fun HT => ?_
  · rw [Try.params4] at hd
    match ds, hd with
    | [_, _, _], _ => rfl
  · rw [Try.params4] at HT
    generalize ds.map ofD = al at HT ⊢
    obtain ⟨a1, r1, rfl, p1, h1⟩ := HT.cons_inv
    obtain ⟨a2, r2, rfl, p2, h2⟩ := h1.cons_inv
    obtain ⟨a3, r3, rfl, p3, h3⟩ := h2.cons_inv
    obtain rfl := h3.nil_inv
    obtain ⟨s, rfl, hs⟩ := estate_of p1
    obtain ⟨l2, rfl, hl2⟩ := stages_of p2
    obtain ⟨H, rfl, hHl, hH⟩ := ints_of p3
    exact (sucProveSpec_calls _ s l2 H _ hs hH hHl hl2).mono fun _ _ h => h.2
theorem successionProveSpec_holds : Rows.SuccessionProveSpecSaid :=
  OpenClaim.holds_of_wide 4 Try.f4 rfl rfl rfl rfl rfl rfl rfl ⟨rfl, rfl, rfl, rfl, rfl⟩ rfl rfl rfl rfl rfl (by kernel_rfl) Try.func4 (by kernel_rfl)
    (of_decide_eq_true (by kernel_rfl)) (by unfold Func.isWrapper; first | (rw [if_pos (by decide +kernel)]; kernel_rfl) | (rw [if_neg (by decide +kernel)]; exact ⟨rfl, rfl⟩))
    (fun os started H enc _ => successionProveSpec_lifted os started H enc)
#print axioms successionProveSpec_holds
end Go.Proofs.Ytaepdkjfaeepmaa
