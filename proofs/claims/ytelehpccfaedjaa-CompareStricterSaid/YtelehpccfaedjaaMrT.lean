/- Texts joined: GateO, GateP. No conditions. -/
import Derived.Test.YtelehpccfaedjaaMrM
import Derived.Test.YtelehpccfaedjaaMrY
import Derived.Test.YtelehpccfaedjaaMrJ
/- What is read at the statements' arguments, as formulas and lists of people. No conditions. -/
set_option linter.unusedSimpArgs false
set_option linter.unusedVariables false
namespace Go.Proofs.Ytelehpccfaedjaa
open Go Go.Proofs Go.Abs Go.RowKit

theorem gate_of_k : ∀ (k : Nat) (v : AV), SizeOf.sizeOf v < k → Typed Try.prog maxLen 54 v → ∃ g, v = encG g ∧ Sh g
  | 0, _, hk, _ => absurd hk (Nat.not_lt_zero _)
  | k + 1, v, hk, h => by
    obtain ⟨ps, rfl, hps⟩ := h.struct_inv Try.underlying54
    obtain ⟨a, r1, rfl, ha, h1⟩ := hps.cons_inv
    obtain ⟨b, r2, rfl, hb, h2⟩ := h1.cons_inv
    obtain ⟨c, r3, rfl, hc, h3⟩ := h2.cons_inv
    obtain rfl := h3.nil_inv
    obtain ⟨p, rfl, p1, p2⟩ := ha.int_inv Try.underlying3
    obtain ⟨n, rfl, n1, n2⟩ := hb.int_inv Try.underlying3
    obtain ⟨rows, rfl, hl, hr⟩ := hc.sl_inv Try.underlying52
    obtain ⟨l, rfl, hq⟩ := list_of (enc := encG) (Q := Sh) fun r hm => by
      refine gate_of_k k r ?_ (hr r hm)
      have := List.sizeOf_lt_of_mem hm
      simp only [List.flatMap_cons, AV.cells, List.flatMap_nil, List.append_nil, List.cons_append, List.nil_append, AV.agg.sizeOf_spec, List.cons.sizeOf_spec, AV.sl.sizeOf_spec, List.nil.sizeOf_spec] at hk
      omega
    refine ⟨.mk p n l, by simp [encG_mk, AV.cells], .mk (by simpa [maxLen] using hl) hq p1 p2 n1 n2⟩
theorem gate_of {v : AV} (h : Typed Try.prog maxLen 54 v) : ∃ g, v = encG g ∧ Sh g := gate_of_k _ v (Nat.lt_succ_self _) h
theorem ints_of {v : AV} (h : Typed Try.prog maxLen 29 v) : ∃ l : List Int, v = .sl (encI l) .free ∧ l.length ≤ 9223372036854775807 := by
  obtain ⟨rows, rfl, hl, hr⟩ := h.sl_inv Try.underlying29
  obtain ⟨l, rfl, _⟩ := list_of (enc := fun i => AV.int .i64 i) (Q := fun _ => True) fun r hm => by
    obtain ⟨p, rfl, p1, p2⟩ := (hr r hm).int_inv Try.underlying3
    exact ⟨p, rfl, trivial⟩
  exact ⟨l, rfl, by simpa [maxLen] using hl⟩
theorem own : ownKnob Try.prog.godebug = none := by kernel_rfl
end Go.Proofs.Ytelehpccfaedjaa

/- Readings of lists of lists. No conditions. -/
set_option linter.unusedSimpArgs false
set_option linter.unusedVariables false
namespace Go.Proofs.Ytelehpccfaedjaa
open Go Go.Proofs Go.Abs
theorem intss_of {v : AV} (h : Typed Try.prog maxLen 55 v) : ∃ l : List (List Int), v = .sl (encII l) .free ∧ l.length ≤ 9223372036854775807 ∧ ∀ s ∈ l, s.length ≤ 9223372036854775807 := by
  obtain ⟨rows, rfl, hl, hr⟩ := h.sl_inv Try.underlying55
  obtain ⟨l, rfl, hq⟩ := list_of (enc := fun s : List Int => AV.sl (encI s) .free) (Q := fun s => s.length ≤ 9223372036854775807) fun r hm => ints_of (hr r hm)
  exact ⟨l, rfl, by simpa [maxLen] using hl, hq⟩
end Go.Proofs.Ytelehpccfaedjaa
