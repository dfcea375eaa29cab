/- FormulasCounted holds: for every input the call returns true, and each argument reads afterwards as it read before. No conditions. -/
import Derived.Test.YtkcpnmphlanocaaLawD
import Derived.Test.YtkcpnmphlanocaaAbsQ
set_option linter.unusedSimpArgs false
set_option linter.unusedVariables false
namespace Go.Proofs.Ytkcpnmphlanocaa
open Go Go.Proofs Go.Abs Go.RowKit
set_option linter.unusedVariables false

theorem gate_of_k : ∀ (k : Nat) (v : AV), SizeOf.sizeOf v < k → Typed Try.prog maxLen 24 v → ∃ g, v = encG g ∧ Sh g
  | 0, _, hk, _ => absurd hk (Nat.not_lt_zero _)
  | k + 1, v, hk, h => by
    obtain ⟨ps, rfl, hps⟩ := h.struct_inv Try.underlying24
    obtain ⟨a, r1, rfl, ha, h1⟩ := hps.cons_inv
    obtain ⟨b, r2, rfl, hb, h2⟩ := h1.cons_inv
    obtain ⟨c, r3, rfl, hc, h3⟩ := h2.cons_inv
    obtain rfl := h3.nil_inv
    obtain ⟨p, rfl, p1, p2⟩ := ha.int_inv Try.underlying3
    obtain ⟨n, rfl, n1, n2⟩ := hb.int_inv Try.underlying3
    obtain ⟨rows, rfl, hl, hr⟩ := hc.sl_inv Try.underlying22
    obtain ⟨l, rfl, hq⟩ := list_of (enc := encG) (Q := Sh) fun r hm => by
      refine gate_of_k k r ?_ (hr r hm)
      have := List.sizeOf_lt_of_mem hm
      simp only [List.flatMap_cons, AV.cells, List.flatMap_nil, List.append_nil, List.cons_append, List.nil_append, AV.agg.sizeOf_spec, List.cons.sizeOf_spec, AV.sl.sizeOf_spec, List.nil.sizeOf_spec] at hk
      omega
    refine ⟨.mk p n l, by simp [encG_mk, AV.cells], .mk (by simpa [maxLen] using hl) hq p1 p2 n1 n2⟩
theorem gate_of {v : AV} (h : Typed Try.prog maxLen 24 v) : ∃ g, v = encG g ∧ Sh g := gate_of_k _ v (Nat.lt_succ_self _) h
theorem own : ownKnob Try.prog.godebug = none := by kernel_rfl

theorem counted_facts : lawFacts Try.prog [24, 3, 22, 25, 5] Try.f5 = true := by kernel_rfl
set_option maxRecDepth 100000 in
theorem counted_lifted (os : Os) (started : os.Started) (H : Type) (enc : TypeId × Value → H) :
    ReturnsInHanded {} Try.checked os 5 .any (Rows.formulasCountedSpec.pre6 enc Try.prog Try.f5 Rows.formulasCountedRow.domain false) (Rows.formulasCountedSpec.post enc Try.prog Try.f5 false true false false) := by
  refine returnsInHanded_of_change (C := Try.checked) own started (by kernel_rfl) Try.func5
    (ChangeSpec.witness6 (enc := enc) (C := Try.checked) false ⟨#[], #[.agg #[.int .i64 0, .int .i64 0, .slice none 0 0], .int .u64 0, .int .u8 0], []⟩ 8 (by kernel_rfl) (by kernel_rfl) (by kernel_rfl) (by kernel_rfl)) ?_
  intro W base args ds gs before hval hW _ _
  refine contract_of _ counted_facts rfl (fun ds hd => ?_) hval hW fun HT => ?_
  · rw [Try.params5] at hd
    match ds, hd with
    | [_, _, _], _ => rfl
  · rw [Try.params5] at HT
    generalize ds.map ofD = al at HT ⊢
    obtain ⟨a, r1, rfl, ha, h1⟩ := HT.cons_inv
    obtain ⟨b, r2, rfl, hb, h2⟩ := h1.cons_inv
    obtain ⟨c, r3, rfl, hc, h3⟩ := h2.cons_inv
    obtain rfl := h3.nil_inv
    obtain ⟨g, rfl, hg⟩ := gate_of ha
    obtain ⟨n, rfl, n1, n2⟩ := hb.int_inv Try.underlying25
    obtain ⟨m, rfl, m1, m2⟩ := hc.int_inv Try.underlying5
    exact (counted_calls _ g n m _ hg n1 m1 m2).mono fun _ _ h => h.2

theorem counted_holds : Rows.FormulasCountedSaid :=
  OpenClaim.holds_of_wide 5 Try.f5 rfl rfl rfl rfl rfl rfl rfl ⟨rfl, rfl, rfl, rfl, rfl⟩ rfl rfl rfl rfl rfl (by kernel_rfl) Try.func5 (by kernel_rfl)
    (of_decide_eq_true (by kernel_rfl)) (by unfold Func.isWrapper; first | (rw [if_pos (by decide +kernel)]; kernel_rfl) | (rw [if_neg (by decide +kernel)]; exact ⟨rfl, rfl⟩))
    (fun os started H enc _ => counted_lifted os started H enc)
#print axioms counted_holds
end Go.Proofs.Ytkcpnmphlanocaa
