/- LockoutMore holds: for every input the call returns true, and each argument reads afterwards as it read before. No conditions. -/
import Derived.Test.YtlgamlamolfnlaaGreatMrAL
import Derived.Test.YtlgamlamolfnlaaGreatMrT
namespace Go.Proofs.YtlgamlamolfnlaaGreat
open Go Go.Proofs Go.Abs Go.RowKit
set_option linter.unusedVariables false
set_option linter.unusedSimpArgs false
theorem lockoutMore_facts : lawFacts Tryz.prog [24, 3, 22, 5] Tryz.f6 = true := by kernel_rfl
set_option maxRecDepth 100000 in
theorem lockoutMore_lifted (os : Os) (started : os.Started) (H : Type) (enc : TypeId × Value → H) :
    ReturnsInHanded {} Tryz.checked os 6 .any (Rows.lockoutMoreSpec.pre6 enc Tryz.prog Tryz.f6 Rows.lockoutMoreRow.domain false) (Rows.lockoutMoreSpec.post enc Tryz.prog Tryz.f6 false true false false) := by
  refine returnsInHanded_of_change (C := Tryz.checked) own started (by kernel_rfl) Tryz.func6
    (ChangeSpec.witness6 (enc := enc) (C := Tryz.checked) false ⟨#[], #[.agg #[.int .i64 0, .int .i64 0, .slice none 0 0], .int .u8 0, .int .u8 0], []⟩ 8 (by kernel_rfl) (by kernel_rfl) (by kernel_rfl) (by kernel_rfl)) ?_
  intro W base args ds gs before hval hW _ _
  refine contract_of _ lockoutMore_facts rfl (fun ds hd => ?_) hval hW fun HT => ?_
  · rw [Tryz.params6] at hd
    match ds, hd with
    | [_, _, _], _ => rfl
  · rw [Tryz.params6] at HT
    generalize ds.map ofD = al at HT ⊢
    obtain ⟨v0, r0, rfl, w0, t0⟩ := HT.cons_inv
    obtain ⟨v1, r1, rfl, w1, t1⟩ := t0.cons_inv
    obtain ⟨v2, r2, rfl, w2, t2⟩ := t1.cons_inv
    obtain rfl := t2.nil_inv
    obtain ⟨g, rfl, hg⟩ := gate_of w0
    obtain ⟨pm, rfl, pm1, pm2⟩ := w1.int_inv Tryz.underlying5
    obtain ⟨m, rfl⟩ : ∃ m : Nat, pm = m := ⟨pm.toNat, (Int.toNat_of_nonneg pm1).symm⟩
    have hm : m < 256 := by have : (m : Int) ≤ 255 := pm2; omega
    obtain ⟨pn, rfl, pn1, pn2⟩ := w2.int_inv Tryz.underlying5
    obtain ⟨n, rfl⟩ : ∃ m : Nat, pn = m := ⟨pn.toNat, (Int.toNat_of_nonneg pn1).symm⟩
    have hn : n < 256 := by have : (n : Int) ≤ 255 := pn2; omega
    exact (lockMore_calls _ g m n _ hg hm hn).mono fun _ _ h => h.2
theorem lockoutMore_holds : Rows.LockoutMoreSaid :=
  OpenClaim.holds_of_wide 6 Tryz.f6 rfl rfl rfl rfl rfl rfl rfl ⟨rfl, rfl, rfl, rfl, rfl⟩ rfl rfl rfl rfl rfl (by kernel_rfl) Tryz.func6 (by kernel_rfl)
    (of_decide_eq_true (by kernel_rfl)) (by unfold Func.isWrapper; first | (rw [if_pos (by decide +kernel)]; kernel_rfl) | (rw [if_neg (by decide +kernel)]; exact ⟨rfl, rfl⟩))
    (fun os started H enc _ => lockoutMore_lifted os started H enc)
#print axioms lockoutMore_holds
end Go.Proofs.YtlgamlamolfnlaaGreat
