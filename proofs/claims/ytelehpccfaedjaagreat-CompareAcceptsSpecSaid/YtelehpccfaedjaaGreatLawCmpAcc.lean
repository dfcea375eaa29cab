/- CompareAcceptsSpec holds: for every input the call returns true, and each argument reads afterwards as it read before. No conditions. -/
import Derived.Test.YtelehpccfaedjaaGreatMrBH
import Derived.Test.YtelehpccfaedjaaGreatMrT
namespace Go.Proofs.YtelehpccfaedjaaGreat
open Go Go.Proofs Go.Abs Go.RowKit
set_option linter.unusedVariables false
set_option linter.unusedSimpArgs false
theorem compareAcceptsSpec_facts : lawFacts Tryz.prog [24, 3, 22, 27, 33] Tryz.f4 = true := by kernel_rfl
set_option maxRecDepth 100000 in
theorem compareAcceptsSpec_lifted (os : Os) (started : os.Started) (H : Type) (enc : TypeId × Value → H) :
    ReturnsInHanded {} Tryz.checked os 4 .any (Rows.compareAcceptsSpecSpec.pre6 enc Tryz.prog Tryz.f4 Rows.compareAcceptsSpecRow.domain false) (Rows.compareAcceptsSpecSpec.post enc Tryz.prog Tryz.f4 false true false false) := by
  refine returnsInHanded_of_change (C := Tryz.checked) own started (by kernel_rfl) Tryz.func4
    (ChangeSpec.witness6 (enc := enc) (C := Tryz.checked) false ⟨#[], #[.agg #[.int .i64 0, .int .i64 0, .slice none 0 0], .agg #[.int .i64 0, .int .i64 0, .slice none 0 0], .slice none 0 0, .slice none 0 0], []⟩ 8 (by kernel_rfl) (by kernel_rfl) (by kernel_rfl) (by kernel_rfl)) ?_
  intro W base args ds gs before hval hW _ _
  refine contract_of _ compareAcceptsSpec_facts rfl (fun ds hd => ?_) hval hW fun HT => ?_
  · rw [Tryz.params4] at hd
    match ds, hd with
    | [_, _, _, _], _ => rfl
  · rw [Tryz.params4] at HT
    generalize ds.map ofD = al at HT ⊢
    obtain ⟨a, r1, rfl, ha, h1⟩ := HT.cons_inv
    obtain ⟨b, r2, rfl, hb, h2⟩ := h1.cons_inv
    obtain ⟨c, r3, rfl, hc, h3⟩ := h2.cons_inv
    obtain ⟨d, r4, rfl, hd, h4⟩ := h3.cons_inv
    obtain rfl := h4.nil_inv
    obtain ⟨g, rfl, hg⟩ := gate_of ha
    obtain ⟨g2, rfl, hg2⟩ := gate_of hb
    obtain ⟨l, rfl, hl, hl2⟩ := intss_of hc
    obtain ⟨m, rfl, hm⟩ := ints_of hd
    exact (cmpAcc_calls _ g g2 l m _ hg hg2 hl hm).mono fun _ _ h => h.2
theorem compareAcceptsSpec_holds : Rows.CompareAcceptsSpecSaid :=
  OpenClaim.holds_of_wide 4 Tryz.f4 rfl rfl rfl rfl rfl rfl rfl ⟨rfl, rfl, rfl, rfl, rfl⟩ rfl rfl rfl rfl rfl (by kernel_rfl) Tryz.func4 (by kernel_rfl)
    (of_decide_eq_true (by kernel_rfl)) (by unfold Func.isWrapper; first | (rw [if_pos (by decide +kernel)]; kernel_rfl) | (rw [if_neg (by decide +kernel)]; exact ⟨rfl, rfl⟩))
    (fun os started H enc _ => compareAcceptsSpec_lifted os started H enc)
#print axioms compareAcceptsSpec_holds
end Go.Proofs.YtelehpccfaedjaaGreat
