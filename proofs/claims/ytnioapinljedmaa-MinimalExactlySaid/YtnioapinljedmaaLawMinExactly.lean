/- MinimalExactly holds: for every input the call returns true, and each argument reads afterwards as it read before. No conditions. -/
import Derived.Test.YtnioapinljedmaaMrU
import Derived.Test.YtnioapinljedmaaMrT
namespace Go.Proofs.Ytnioapinljedmaa
open Go Go.Proofs Go.Abs Go.RowKit
set_option linter.unusedVariables false
set_option linter.unusedSimpArgs false
theorem minimalExactly_facts : lawFacts Try.prog [24, 3, 22, 53] Try.f12 = true := by kernel_rfl
set_option maxRecDepth 100000 in
theorem minimalExactly_lifted (os : Os) (started : os.Started) (H : Type) (enc : TypeId × Value → H) :
    ReturnsInHanded {} Try.checked os 12 .any (Rows.minimalExactlySpec.pre6 enc Try.prog Try.f12 Rows.minimalExactlyRow.domain false) (Rows.minimalExactlySpec.post enc Try.prog Try.f12 false true false false) := by
  refine returnsInHanded_of_change (C := Try.checked) own started (by kernel_rfl) Try.func12
    (ChangeSpec.witness6 (enc := enc) (C := Try.checked) false ⟨#[], #[.agg #[.int .i64 0, .int .i64 0, .slice none 0 0], .int .u16 0], []⟩ 8 (by kernel_rfl) (by kernel_rfl) (by kernel_rfl) (by kernel_rfl)) ?_
  intro W base args ds gs before hval hW _ _
  refine contract_of _ minimalExactly_facts rfl (fun ds hd => ?_) hval hW fun HT => ?_
  · rw [Try.params12] at hd
    match ds, hd with
    | [_, _], _ => rfl
  · rw [Try.params12] at HT
    generalize ds.map ofD = al at HT ⊢
    obtain ⟨a, r1, rfl, ha, h1⟩ := HT.cons_inv
    obtain ⟨b, r2, rfl, hb, h2⟩ := h1.cons_inv
    obtain rfl := h2.nil_inv
    obtain ⟨g, rfl, hg⟩ := gate_of ha
    obtain ⟨p, rfl, p1, p2⟩ := hb.int_inv Try.underlying53
    obtain ⟨m, rfl⟩ : ∃ m : Nat, p = m := ⟨p.toNat, (Int.toNat_of_nonneg p1).symm⟩
    have hm : m < 65536 := by have : (m : Int) ≤ 65535 := p2; omega
    exact (minExactly_calls _ g m _ hg hm).mono fun _ _ h => h.2
theorem minimalExactly_holds : Rows.MinimalExactlySaid :=
  OpenClaim.holds_of_wide 12 Try.f12 rfl rfl rfl rfl rfl rfl rfl ⟨rfl, rfl, rfl, rfl, rfl⟩ rfl rfl rfl rfl rfl (by kernel_rfl) Try.func12 (by kernel_rfl)
    (of_decide_eq_true (by kernel_rfl)) (by unfold Func.isWrapper; first | (rw [if_pos (by decide +kernel)]; kernel_rfl) | (rw [if_neg (by decide +kernel)]; exact ⟨rfl, rfl⟩))
    (fun os started H enc _ => minimalExactly_lifted os started H enc)
#print axioms minimalExactly_holds
end Go.Proofs.Ytnioapinljedmaa
