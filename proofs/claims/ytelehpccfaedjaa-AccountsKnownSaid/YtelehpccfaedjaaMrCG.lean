/- Texts joined: AccOf. No conditions. -/
import Derived.Test.YtelehpccfaedjaaMrCF
import Derived.Test.YtelehpccfaedjaaMrY
/- What is read at the statements' arguments, as budgets, uses. No conditions. -/
set_option linter.unusedSimpArgs false
set_option linter.unusedVariables false
namespace Go.Proofs.Ytelehpccfaedjaa
open Go Go.Proofs Go.Abs Go.RowKit
set_option linter.unusedVariables false

theorem int_of {v : AV} (h : Typed Try.prog maxLen 3 v) : ∃ n : Int, v = .int .i64 n := by
  obtain ⟨n, rfl, _, _⟩ := h.int_inv Try.underlying3
  exact ⟨n, rfl⟩
theorem bud_of {v : AV} (h : Typed Try.prog maxLen 40 v) : ∃ b : Bg, v = encB b := by
  obtain ⟨ps, rfl, hps⟩ := h.struct_inv Try.underlying40
  obtain ⟨a1, r1, rfl, p1, h1⟩ := hps.cons_inv
  obtain ⟨a2, r2, rfl, p2, h2⟩ := h1.cons_inv
  obtain ⟨a3, r3, rfl, p3, h3⟩ := h2.cons_inv
  obtain ⟨a4, r4, rfl, p4, h4⟩ := h3.cons_inv
  obtain ⟨a5, r5, rfl, p5, h5⟩ := h4.cons_inv
  obtain ⟨a6, r6, rfl, p6, h6⟩ := h5.cons_inv
  obtain ⟨a7, r7, rfl, p7, h7⟩ := h6.cons_inv
  obtain ⟨a8, r8, rfl, p8, h8⟩ := h7.cons_inv
  obtain rfl := h8.nil_inv
  obtain ⟨n1, rfl⟩ := int_of p1
  obtain ⟨n2, rfl⟩ := int_of p2
  obtain ⟨n3, rfl⟩ := int_of p3
  obtain ⟨n4, rfl⟩ := int_of p4
  obtain ⟨n5, rfl⟩ := int_of p5
  obtain ⟨n6, rfl⟩ := int_of p6
  obtain ⟨n7, rfl⟩ := int_of p7
  obtain ⟨n8, rfl⟩ := p8.bool_inv Try.underlying4
  exact ⟨⟨n1, n2, n3, n4, n5, n6, n7, n8⟩, by simp [encB, AV.cells]⟩
theorem use_of {v : AV} (h : Typed Try.prog maxLen 42 v) : ∃ b : Us, v = encU b := by
  obtain ⟨ps, rfl, hps⟩ := h.struct_inv Try.underlying42
  obtain ⟨a1, r1, rfl, p1, h1⟩ := hps.cons_inv
  obtain ⟨a2, r2, rfl, p2, h2⟩ := h1.cons_inv
  obtain ⟨a3, r3, rfl, p3, h3⟩ := h2.cons_inv
  obtain ⟨a4, r4, rfl, p4, h4⟩ := h3.cons_inv
  obtain ⟨a5, r5, rfl, p5, h5⟩ := h4.cons_inv
  obtain rfl := h5.nil_inv
  obtain ⟨n1, rfl⟩ := int_of p1
  obtain ⟨n2, rfl⟩ := int_of p2
  obtain ⟨n3, rfl⟩ := int_of p3
  obtain ⟨n4, rfl⟩ := int_of p4
  obtain ⟨n5, rfl⟩ := int_of p5
  exact ⟨⟨n1, n2, n3, n4, n5⟩, by simp [encU, AV.cells]⟩
theorem buds_of {v : AV} (h : Typed Try.prog maxLen 22 v) : ∃ l : List Bg, v = .sl (encBs l) .free := by
  obtain ⟨rows, rfl, hl, hr⟩ := h.sl_inv Try.underlying22
  obtain ⟨l, rfl, hq⟩ := list_of (enc := encB) (Q := fun _ => True) fun r hm => by
    obtain ⟨b, e⟩ := bud_of (hr r hm)
    exact ⟨b, e, trivial⟩
  exact ⟨l, rfl⟩
theorem buds_of' {v : AV} (h : Typed Try.prog maxLen 22 v) : ∃ l : List Bg, v = .sl (encBs l) .free ∧ l.length ≤ 9223372036854775807 := by
  obtain ⟨rows, rfl, hl, hr⟩ := h.sl_inv Try.underlying22
  obtain ⟨l, rfl, hq⟩ := list_of (enc := encB) (Q := fun _ => True) fun r hm => by
    obtain ⟨b, e⟩ := bud_of (hr r hm)
    exact ⟨b, e, trivial⟩
  exact ⟨l, rfl, by simpa [maxLen] using hl⟩
theorem u8_of {v : AV} (h : Typed Try.prog maxLen 5 v) : ∃ m : Int, v = .int .u8 m ∧ 0 ≤ m ∧ m ≤ 255 := by
  obtain ⟨n, rfl, h1, h2⟩ := h.int_inv Try.underlying5
  simp only [IntKind.min, IntKind.max, IntKind.signed, IntKind.bits] at h1 h2
  exact ⟨n, rfl, by simpa using h1, by simp at h2; omega⟩
theorem uses_of {v : AV} (h : Typed Try.prog maxLen 23 v) : ∃ l : List Us, v = .sl (encUs l) .free := by
  obtain ⟨rows, rfl, hl, hr⟩ := h.sl_inv Try.underlying23
  obtain ⟨l, rfl, hq⟩ := list_of (enc := encU) (Q := fun _ => True) fun r hm => by
    obtain ⟨b, e⟩ := use_of (hr r hm)
    exact ⟨b, e, trivial⟩
  exact ⟨l, rfl⟩
theorem own : ownKnob Try.prog.godebug = none := by kernel_rfl
end Go.Proofs.Ytelehpccfaedjaa
