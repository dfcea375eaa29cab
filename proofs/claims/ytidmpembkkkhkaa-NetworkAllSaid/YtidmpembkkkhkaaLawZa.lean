/- NetworkAll holds: for every input the call returns true, and each argument reads afterwards as it read before. No conditions. -/
import Derived.Test.YtidmpembkkkhkaaLawZ
import Derived.Test.YtidmpembkkkhkaaNetOf
namespace Go.Proofs.Ytidmpembkkkhkaa
open Go Go.Proofs Go.Abs Go.RowKit
set_option linter.unusedVariables false
set_option linter.unusedSimpArgs false
theorem networkAll_facts : lawFacts Try.prog [22, 28, 3, 26, 5] Try.f4 = true := by kernel_rfl
set_option maxRecDepth 100000 in
theorem networkAll_lifted (os : Os) (started : os.Started) (H : Type) (enc : TypeId × Value → H) :
    ReturnsInHanded {} Try.checked os 4 .any (Rows.networkAllSpec.pre6 enc Try.prog Try.f4 Rows.networkAllRow.domain false) (Rows.networkAllSpec.post enc Try.prog Try.f4 false true false false) := by
  refine returnsInHanded_of_change (C := Try.checked) own started (by kernel_rfl) Try.func4
    (ChangeSpec.witness6 (enc := enc) (C := Try.checked) false ⟨#[], #[.slice none 0 0, .slice none 0 0], []⟩ 8 (by kernel_rfl) (by kernel_rfl) (by kernel_rfl) (by kernel_rfl)) ?_
  intro W base args ds gs before hval hW _ _
  refine contract_of _ networkAll_facts rfl (fun ds hd => ?_) hval hW fun HT => ?_
  · rw [Try.params4] at hd
    match ds, hd with
    | [_, _], _ => rfl
  · rw [Try.params4] at HT
    generalize ds.map ofD = al at HT ⊢
    obtain ⟨a, r1, rfl, ha, h1⟩ := HT.cons_inv
    obtain ⟨b, r2, rfl, hb, h2⟩ := h1.cons_inv
    obtain rfl := h2.nil_inv
    obtain ⟨rows, rfl, hl, hr⟩ := ha.sl_inv Try.underlying22
    obtain ⟨l, rfl, hq⟩ := list_of (enc := encK) (Q := fun _ => True) fun r hm => by
      obtain ⟨b, e⟩ := pkt_of (hr r hm)
      exact ⟨b, e, trivial⟩
    obtain ⟨o, rfl, ho⟩ := bytes_of hb
    exact (all_calls _ l o _ ho).mono fun _ _ h => h.2
theorem networkAll_holds : Rows.NetworkAllSaid :=
  OpenClaim.holds_of_wide 4 Try.f4 rfl rfl rfl rfl rfl rfl rfl ⟨rfl, rfl, rfl, rfl, rfl⟩ rfl rfl rfl rfl rfl (by kernel_rfl) Try.func4 (by kernel_rfl)
    (of_decide_eq_true (by kernel_rfl)) (by unfold Func.isWrapper; first | (rw [if_pos (by decide +kernel)]; kernel_rfl) | (rw [if_neg (by decide +kernel)]; exact ⟨rfl, rfl⟩))
    (fun os started H enc _ => networkAll_lifted os started H enc)
#print axioms networkAll_holds
end Go.Proofs.Ytidmpembkkkhkaa
