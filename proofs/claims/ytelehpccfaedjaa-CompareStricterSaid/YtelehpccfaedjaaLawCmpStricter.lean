/- CompareStricter holds: for every input the call returns true, and each argument reads afterwards as it read before. No conditions. -/
import Derived.Test.YtelehpccfaedjaaMrBL
import Derived.Test.YtelehpccfaedjaaMrT
namespace Go.Proofs.Ytelehpccfaedjaa
open Go Go.Proofs Go.Abs Go.RowKit
set_option linter.unusedVariables false
set_option linter.unusedSimpArgs false
theorem compareStricter_facts : lawFacts Try.prog [54, 3, 52, 5] Try.f12 = true := by kernel_rfl
set_option maxRecDepth 100000 in
theorem compareStricter_lifted (os : Os) (started : os.Started) (H : Type) (enc : TypeId × Value → H) :
    ReturnsInHanded {} Try.checked os 12 .any (Rows.compareStricterSpec.pre6 enc Try.prog Try.f12 Rows.compareStricterRow.domain false) (Rows.compareStricterSpec.post enc Try.prog Try.f12 false true false false) := by
  refine returnsInHanded_of_change_sized (C := Try.checked) own started (by kernel_rfl) Try.func12
    (ChangeSpec.witness6 (enc := enc) (C := Try.checked) false ⟨#[], #[.agg #[.int .i64 0, .int .i64 0, .slice none 0 0], .agg #[.int .i64 0, .int .i64 0, .slice none 0 0], .int .u8 0], []⟩ 8 (by kernel_rfl) (by kernel_rfl) (by kernel_rfl) (by kernel_rfl)) ?_
  intro W base args ds gs before hval hW _ hz _
  refine contract_of _ compareStricter_facts rfl (fun ds hd => ?_) hval hW fun HT => ?_
  · rw [Try.params12] at hd
    match ds, hd with
    | [_, _, _], _ => rfl
  · rw [Try.params12] at HT
    have hK := fun p n gl rest => gate_first hW hz (p := p) (n := n) (gl := gl) (rest := rest)
    generalize ds.map ofD = al at HT hK ⊢
    obtain ⟨a, r1, rfl, ha, h1⟩ := HT.cons_inv
    obtain ⟨b, r2, rfl, hb, h2⟩ := h1.cons_inv
    obtain ⟨c, r3, rfl, hc, h3⟩ := h2.cons_inv
    obtain rfl := h3.nil_inv
    obtain ⟨g, rfl, hg⟩ := gate_of ha
    obtain ⟨g2, rfl, hg2⟩ := gate_of hb
    obtain ⟨m, rfl, hm1, hm2⟩ := hc.int_inv Try.underlying5
    cases g with | mk p n gl =>
    have hl := hK p n gl _ rfl
    simp only [IntKind.min, IntKind.max, IntKind.signed, IntKind.bits] at hm1 hm2
    exact (cmpStricter_calls _ p n m gl g2 _ hg hg2 (by simpa using hm1) (by simp at hm2; omega) hl).mono fun _ _ h => h.2
theorem compareStricter_holds : Rows.CompareStricterSaid :=
  OpenClaim.holds_of_wide 12 Try.f12 rfl rfl rfl rfl rfl rfl rfl ⟨rfl, rfl, rfl, rfl, rfl⟩ rfl rfl rfl rfl rfl (by kernel_rfl) Try.func12 (by kernel_rfl)
    (of_decide_eq_true (by kernel_rfl)) (by unfold Func.isWrapper; first | (rw [if_pos (by decide +kernel)]; kernel_rfl) | (rw [if_neg (by decide +kernel)]; exact ⟨rfl, rfl⟩))
    (fun os started H enc _ => compareStricter_lifted os started H enc)
#print axioms compareStricter_holds
end Go.Proofs.Ytelehpccfaedjaa
