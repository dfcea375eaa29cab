/- CompareSound holds: for every input the call returns true, and each argument reads afterwards as it read before. No conditions. -/
import Derived.Test.YtelehpccfaedjaaCmpM
import Derived.Test.YtelehpccfaedjaaMrT
namespace Go.Proofs.Ytelehpccfaedjaa
open Go Go.Proofs Go.Abs Go.RowKit
set_option linter.unusedVariables false
set_option linter.unusedSimpArgs false
theorem compareSound_facts : lawFacts Try.prog [54, 3, 52, 29, 55] Try.f10 = true := by kernel_rfl
set_option maxRecDepth 100000 in
theorem compareSound_lifted (os : Os) (started : os.Started) (H : Type) (enc : TypeId × Value → H) :
    ReturnsInHanded {} Try.checked os 10 .any (Rows.compareSoundSpec.pre6 enc Try.prog Try.f10 Rows.compareSoundRow.domain false) (Rows.compareSoundSpec.post enc Try.prog Try.f10 false true false false) := by
  refine returnsInHanded_of_change (C := Try.checked) own started (by kernel_rfl) Try.func10
    (ChangeSpec.witness6 (enc := enc) (C := Try.checked) false ⟨#[], #[.agg #[.int .i64 0, .int .i64 0, .slice none 0 0], .agg #[.int .i64 0, .int .i64 0, .slice none 0 0], .slice none 0 0, .slice none 0 0, .slice none 0 0], []⟩ 8 (by kernel_rfl) (by kernel_rfl) (by kernel_rfl) (by kernel_rfl)) ?_
  intro W base args ds gs before hval hW _ _
  refine contract_of _ compareSound_facts rfl (fun ds hd => ?_) hval hW fun HT => ?_
  · rw [Try.params10] at hd
    match ds, hd with
    | [_, _, _, _, _], _ => rfl
  · rw [Try.params10] at HT
    generalize ds.map ofD = al at HT ⊢
    obtain ⟨a, r1, rfl, ha, h1⟩ := HT.cons_inv
    obtain ⟨b, r2, rfl, hb, h2⟩ := h1.cons_inv
    obtain ⟨c, r3, rfl, hc, h3⟩ := h2.cons_inv
    obtain ⟨d, r4, rfl, hd, h4⟩ := h3.cons_inv
    obtain ⟨e, r5, rfl, he, h5⟩ := h4.cons_inv
    obtain rfl := h5.nil_inv
    obtain ⟨g, rfl, hg⟩ := gate_of ha
    obtain ⟨g2, rfl, hg2⟩ := gate_of hb
    obtain ⟨l, rfl, hl, hl2⟩ := intss_of hc
    obtain ⟨m, rfl, hm⟩ := ints_of hd
    obtain ⟨w, rfl, hw⟩ := ints_of he
    exact (cmpSound_calls _ g g2 l m w _ hg hg2 hl hm hw).mono fun _ _ h => h.2
theorem compareSound_holds : Rows.CompareSoundSaid :=
  OpenClaim.holds_of_wide 10 Try.f10 rfl rfl rfl rfl rfl rfl rfl ⟨rfl, rfl, rfl, rfl, rfl⟩ rfl rfl rfl rfl rfl (by kernel_rfl) Try.func10 (by kernel_rfl)
    (of_decide_eq_true (by kernel_rfl)) (by unfold Func.isWrapper; first | (rw [if_pos (by decide +kernel)]; kernel_rfl) | (rw [if_neg (by decide +kernel)]; exact ⟨rfl, rfl⟩))
    (fun os started H enc _ => compareSound_lifted os started H enc)
#print axioms compareSound_holds
end Go.Proofs.Ytelehpccfaedjaa
