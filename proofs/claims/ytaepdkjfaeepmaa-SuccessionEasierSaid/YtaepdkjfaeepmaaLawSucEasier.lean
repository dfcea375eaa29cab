/- SuccessionEasier holds: for every input the call returns true, and each argument reads afterwards as it read before. No conditions. -/
import Derived.Test.YtaepdkjfaeepmaaMrDQ
import Derived.Test.YtaepdkjfaeepmaaMrDR
namespace Go.Proofs.Ytaepdkjfaeepmaa
open Go Go.Proofs Go.Abs Go.RowKit
set_option linter.unusedVariables false
set_option linter.unusedSimpArgs false
theorem successionEasier_facts : lawFacts Try.prog [26, 22, 50, 23, 24, 3, 29, 52, 5] Try.f8 = true := by kernel_rfl
set_option maxRecDepth 100000 in
theorem successionEasier_lifted (os : Os) (started : os.Started) (H : Type) (enc : TypeId × Value → H) :
    ReturnsInHanded {} Try.checked os 8 .any (Rows.successionEasierSpec.pre6 enc Try.prog Try.f8 Rows.successionEasierRow.domain false) (Rows.successionEasierSpec.post enc Try.prog Try.f8 false true false false) := by
  refine returnsInHanded_of_change (C := Try.checked) own started (by kernel_rfl) Try.func8
    (ChangeSpec.witness6 (enc := enc) (C := Try.checked) false ⟨#[], #[.agg #[.slice none 0 0, .slice none 0 0, .slice none 0 0, .slice none 0 0, .slice none 0 0], .int .u8 0, .int .u8 0], []⟩ 8 (by kernel_rfl) (by kernel_rfl) (by kernel_rfl) (by kernel_rfl)) ?_
  intro W base args ds gs before hval hW _ _
  refine contract_of _ successionEasier_facts rfl (fun ds hd => ?_) hval hW fun HT => ?_
  · rw [Try.params8] at hd
    match ds, hd with
    | [_, _, _], _ => rfl
  · rw [Try.params8] at HT
    generalize ds.map ofD = al at HT ⊢
    obtain ⟨a1, r1, rfl, p1, h1⟩ := HT.cons_inv
    obtain ⟨a2, r2, rfl, p2, h2⟩ := h1.cons_inv
    obtain ⟨a3, r3, rfl, p3, h3⟩ := h2.cons_inv
    obtain rfl := h3.nil_inv
    obtain ⟨s, rfl, hs⟩ := estate_of p1
    obtain ⟨u2, rfl, hu2, hv2⟩ := u8_of p2
    obtain ⟨u3, rfl, hu3, hv3⟩ := u8_of p3
    exact (sucEasier_calls _ s u2 u3 _ hs hu2 hv2 hu3 hv3).mono fun _ _ h => h.2
theorem successionEasier_holds : Rows.SuccessionEasierSaid :=
  OpenClaim.holds_of_wide 8 Try.f8 rfl rfl rfl rfl rfl rfl rfl ⟨rfl, rfl, rfl, rfl, rfl⟩ rfl rfl rfl rfl rfl (by kernel_rfl) Try.func8 (by kernel_rfl)
    (of_decide_eq_true (by kernel_rfl)) (by unfold Func.isWrapper; first | (rw [if_pos (by decide +kernel)]; kernel_rfl) | (rw [if_neg (by decide +kernel)]; exact ⟨rfl, rfl⟩))
    (fun os started H enc _ => successionEasier_lifted os started H enc)
#print axioms successionEasier_holds
end Go.Proofs.Ytaepdkjfaeepmaa
