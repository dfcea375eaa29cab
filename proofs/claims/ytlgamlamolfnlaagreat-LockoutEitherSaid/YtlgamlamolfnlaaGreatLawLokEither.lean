/- LockoutEither holds: for every input the call returns true, and each argument reads afterwards as it read before. No conditions. -/
import Derived.Test.YtlgamlamolfnlaaGreatMrAK
import Derived.Test.YtlgamlamolfnlaaGreatMrT
namespace Go.Proofs.YtlgamlamolfnlaaGreat
open Go Go.Proofs Go.Abs Go.RowKit
set_option linter.unusedVariables false
set_option linter.unusedSimpArgs false
theorem lockoutEither_facts : lawFacts Tryz.prog [24, 3, 22, 5, 27, 33] Tryz.f5 = true := by kernel_rfl
set_option maxRecDepth 100000 in
theorem lockoutEither_lifted (os : Os) (started : os.Started) (H : Type) (enc : TypeId × Value → H) :
    ReturnsInHanded {} Tryz.checked os 5 .any (Rows.lockoutEitherSpec.pre6 enc Tryz.prog Tryz.f5 Rows.lockoutEitherRow.domain false) (Rows.lockoutEitherSpec.post enc Tryz.prog Tryz.f5 false true false false) := by
  refine returnsInHanded_of_change (C := Tryz.checked) own started (by kernel_rfl) Tryz.func5
    (ChangeSpec.witness6 (enc := enc) (C := Tryz.checked) false ⟨#[], #[.agg #[.int .i64 0, .int .i64 0, .slice none 0 0], .int .i64 0, .int .u8 0, .slice none 0 0], []⟩ 8 (by kernel_rfl) (by kernel_rfl) (by kernel_rfl) (by kernel_rfl)) ?_
  intro W base args ds gs before hval hW _ _
  refine contract_of _ lockoutEither_facts rfl (fun ds hd => ?_) hval hW fun HT => ?_
  · rw [Tryz.params5] at hd
    match ds, hd with
    | [_, _, _, _], _ => rfl
  · rw [Tryz.params5] at HT
    generalize ds.map ofD = al at HT ⊢
    obtain ⟨v0, r0, rfl, w0, t0⟩ := HT.cons_inv
    obtain ⟨v1, r1, rfl, w1, t1⟩ := t0.cons_inv
    obtain ⟨v2, r2, rfl, w2, t2⟩ := t1.cons_inv
    obtain ⟨v3, r3, rfl, w3, t3⟩ := t2.cons_inv
    obtain rfl := t3.nil_inv
    obtain ⟨g, rfl, hg⟩ := gate_of w0
    obtain ⟨p, rfl, p1, p2⟩ := w1.int_inv Tryz.underlying3
    obtain ⟨pm, rfl, pm1, pm2⟩ := w2.int_inv Tryz.underlying5
    obtain ⟨m, rfl⟩ : ∃ m : Nat, pm = m := ⟨pm.toNat, (Int.toNat_of_nonneg pm1).symm⟩
    have hm : m < 256 := by have : (m : Int) ≤ 255 := pm2; omega
    obtain ⟨l, rfl, hl, hl2⟩ := intss_of w3
    exact (lockEither_calls _ g p m l _ hg hm hl hl2).mono fun _ _ h => h.2
theorem lockoutEither_holds : Rows.LockoutEitherSaid :=
  OpenClaim.holds_of_wide 5 Tryz.f5 rfl rfl rfl rfl rfl rfl rfl ⟨rfl, rfl, rfl, rfl, rfl⟩ rfl rfl rfl rfl rfl (by kernel_rfl) Tryz.func5 (by kernel_rfl)
    (of_decide_eq_true (by kernel_rfl)) (by unfold Func.isWrapper; first | (rw [if_pos (by decide +kernel)]; kernel_rfl) | (rw [if_neg (by decide +kernel)]; exact ⟨rfl, rfl⟩))
    (fun os started H enc _ => lockoutEither_lifted os started H enc)
#print axioms lockoutEither_holds
end Go.Proofs.YtlgamlamolfnlaaGreat
