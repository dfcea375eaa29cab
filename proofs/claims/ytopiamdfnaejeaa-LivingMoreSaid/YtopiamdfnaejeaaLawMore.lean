/- LivingMore holds: for every input the call returns true, and each argument reads afterwards as it read before. No conditions. -/
import Derived.Test.YtopiamdfnaejeaaLivO
import Derived.Test.YtopiamdfnaejeaaGateO
namespace Go.Proofs.Ytopiamdfnaejeaa
open Go Go.Proofs Go.Abs Go.RowKit
set_option linter.unusedVariables false
set_option linter.unusedSimpArgs false
theorem livingMore_facts : lawFacts Try.prog [24, 3, 22, 25] Try.f7 = true := by kernel_rfl
set_option maxRecDepth 100000 in
theorem livingMore_lifted (os : Os) (started : os.Started) (H : Type) (enc : TypeId × Value → H) :
    ReturnsInHanded {} Try.checked os 7 .any (Rows.livingMoreSpec.pre6 enc Try.prog Try.f7 Rows.livingMoreRow.domain false) (Rows.livingMoreSpec.post enc Try.prog Try.f7 false true false false) := by
  refine returnsInHanded_of_change (C := Try.checked) own started (by kernel_rfl) Try.func7
    (ChangeSpec.witness6 (enc := enc) (C := Try.checked) false ⟨#[], #[.agg #[.int .i64 0, .int .i64 0, .slice none 0 0], .slice none 0 0, .int .i64 0], []⟩ 8 (by kernel_rfl) (by kernel_rfl) (by kernel_rfl) (by kernel_rfl)) ?_
  intro W base args ds gs before hval hW _ _
  refine contract_of _ livingMore_facts rfl (fun ds hd => ?_) hval hW fun HT => ?_
  · rw [Try.params7] at hd
    match ds, hd with
    | [_, _, _], _ => rfl
  · rw [Try.params7] at HT
    generalize ds.map ofD = al at HT ⊢
    obtain ⟨a, r1, rfl, ha, h1⟩ := HT.cons_inv
    obtain ⟨b, r2, rfl, hb, h2⟩ := h1.cons_inv
    obtain ⟨g, rfl, hg⟩ := gate_of ha
    obtain ⟨l, rfl, hl⟩ := ints_of hb
    obtain ⟨c, r3, rfl, hc, h3⟩ := h2.cons_inv
    obtain rfl := h3.nil_inv
    obtain ⟨p, rfl, p1, p2⟩ := hc.int_inv Try.underlying3
    exact (more_law_calls _ g l p _ hg hl).mono fun _ _ h => h.2
theorem livingMore_holds : Rows.LivingMoreSaid :=
  OpenClaim.holds_of_wide 7 Try.f7 rfl rfl rfl rfl rfl rfl rfl ⟨rfl, rfl, rfl, rfl, rfl⟩ rfl rfl rfl rfl rfl (by kernel_rfl) Try.func7 (by kernel_rfl)
    (of_decide_eq_true (by kernel_rfl)) (by unfold Func.isWrapper; first | (rw [if_pos (by decide +kernel)]; kernel_rfl) | (rw [if_neg (by decide +kernel)]; exact ⟨rfl, rfl⟩))
    (fun os started H enc _ => livingMore_lifted os started H enc)
#print axioms livingMore_holds
end Go.Proofs.Ytopiamdfnaejeaa
