/- Texts joined: SucOf. No conditions. -/
import Derived.Test.YtaepdkjfaeepmaaMrDM
import Derived.Test.YtaepdkjfaeepmaaMrY
/- What is read at the statements' arguments, as estates, stages. No conditions. -/
set_option linter.unusedSimpArgs false
set_option linter.unusedVariables false
namespace Go.Proofs.Ytaepdkjfaeepmaa
open Go Go.Proofs Go.Abs Go.RowKit
set_option linter.unusedVariables false

theorem int_of {v : AV} (h : Typed Try.prog maxLen 3 v) : ∃ n : Int, v = .int .i64 n ∧ n ≤ 9223372036854775807 := by
  obtain ⟨n, rfl, h1, h2⟩ := h.int_inv Try.underlying3
  simp only [IntKind.min, IntKind.max, IntKind.signed, IntKind.bits] at h1 h2
  exact ⟨n, rfl, by simp at h2; omega⟩
theorem heir_of {v : AV} (h : Typed Try.prog maxLen 50 v) : ∃ b : Hr, v = encH b := by
  obtain ⟨ps, rfl, hps⟩ := h.struct_inv Try.underlying50
  obtain ⟨a1, r1, rfl, p1, h1⟩ := hps.cons_inv
  obtain ⟨a2, r2, rfl, p2, h2⟩ := h1.cons_inv
  obtain ⟨a3, r3, rfl, p3, h3⟩ := h2.cons_inv
  obtain rfl := h3.nil_inv
  obtain ⟨n1, rfl, _⟩ := int_of p1
  obtain ⟨n2, rfl, _⟩ := int_of p2
  obtain ⟨n3, rfl, _⟩ := int_of p3
  exact ⟨⟨n1, n2, n3⟩, by simp [encH, AV.cells]⟩
theorem stage_of {v : AV} (h : Typed Try.prog maxLen 52 v) : ∃ b : Sg, v = encSg b := by
  obtain ⟨ps, rfl, hps⟩ := h.struct_inv Try.underlying52
  obtain ⟨a1, r1, rfl, p1, h1⟩ := hps.cons_inv
  obtain ⟨a2, r2, rfl, p2, h2⟩ := h1.cons_inv
  obtain rfl := h2.nil_inv
  obtain ⟨n1, rfl, _⟩ := int_of p1
  obtain ⟨n2, rfl, _⟩ := int_of p2
  exact ⟨⟨n1, n2⟩, by simp [encSg, AV.cells]⟩
theorem heirs_of {v : AV} (h : Typed Try.prog maxLen 22 v) : ∃ l : List Hr, v = .sl (encHs l) .free ∧ l.length ≤ 9223372036854775807 := by
  obtain ⟨rows, rfl, hl, hr⟩ := h.sl_inv Try.underlying22
  obtain ⟨l, rfl, hq⟩ := list_of (enc := encH) (Q := fun _ => True) fun r hm => by
    obtain ⟨b, e⟩ := heir_of (hr r hm)
    exact ⟨b, e, trivial⟩
  exact ⟨l, rfl, by simpa [maxLen] using hl⟩
theorem stages_of {v : AV} (h : Typed Try.prog maxLen 29 v) : ∃ l : List Sg, v = .sl (l.map encSg) .free ∧ l.length ≤ 9223372036854775807 := by
  obtain ⟨rows, rfl, hl, hr⟩ := h.sl_inv Try.underlying29
  obtain ⟨l, rfl, hq⟩ := list_of (enc := encSg) (Q := fun _ => True) fun r hm => by
    obtain ⟨b, e⟩ := stage_of (hr r hm)
    exact ⟨b, e, trivial⟩
  exact ⟨l, rfl, by simpa [maxLen] using hl⟩
theorem ints_of {v : AV} (h : Typed Try.prog maxLen 23 v) : ∃ l : List Int, v = .sl (encI l) .free ∧ l.length ≤ 9223372036854775807 ∧ ∀ x ∈ l, x ≤ 9223372036854775807 := by
  obtain ⟨rows, rfl, hl, hr⟩ := h.sl_inv Try.underlying23
  obtain ⟨l, rfl, hq⟩ := list_of (enc := fun n : Int => AV.int .i64 n) (Q := fun n => n ≤ 9223372036854775807) fun r hm => by
    obtain ⟨b, e, hb⟩ := int_of (hr r hm)
    exact ⟨b, e, hb⟩
  exact ⟨l, rfl, by simpa [maxLen] using hl, hq⟩
theorem intss_of {v : AV} (h : Typed Try.prog maxLen 24 v) : ∃ l : List (List Int), v = .sl (encNv l) .free ∧ l.length ≤ 9223372036854775807 ∧ ∀ c ∈ l, c.length ≤ 9223372036854775807 := by
  obtain ⟨rows, rfl, hl, hr⟩ := h.sl_inv Try.underlying24
  obtain ⟨l, rfl, hq⟩ := list_of (enc := fun n : List Int => AV.sl (encI n) .free) (Q := fun n => n.length ≤ 9223372036854775807) fun r hm => by
    obtain ⟨b, e, hb, _⟩ := ints_of (hr r hm)
    exact ⟨b, e, hb⟩
  exact ⟨l, rfl, by simpa [maxLen] using hl, hq⟩
theorem estate_of {v : AV} (h : Typed Try.prog maxLen 26 v) : ∃ s : Es, v = encEs s ∧ EsL s := by
  obtain ⟨ps, rfl, hps⟩ := h.struct_inv Try.underlying26
  obtain ⟨a1, r1, rfl, p1, h1⟩ := hps.cons_inv
  obtain ⟨a2, r2, rfl, p2, h2⟩ := h1.cons_inv
  obtain ⟨a3, r3, rfl, p3, h3⟩ := h2.cons_inv
  obtain ⟨a4, r4, rfl, p4, h4⟩ := h3.cons_inv
  obtain ⟨a5, r5, rfl, p5, h5⟩ := h4.cons_inv
  obtain rfl := h5.nil_inv
  obtain ⟨n1, rfl, k1⟩ := heirs_of p1
  obtain ⟨n2, rfl, k2, _⟩ := ints_of p2
  obtain ⟨n3, rfl, k3, _⟩ := ints_of p3
  obtain ⟨n4, rfl, k4, _⟩ := ints_of p4
  obtain ⟨n5, rfl, k5, k6⟩ := intss_of p5
  exact ⟨⟨n1, n2, n3, n4, n5⟩, by simp [encEs, esC, AV.cells], ⟨k1, k2, k3, k4, k5, k6⟩⟩
theorem u8_of {v : AV} (h : Typed Try.prog maxLen 5 v) : ∃ m : Int, v = .int .u8 m ∧ 0 ≤ m ∧ m ≤ 255 := by
  obtain ⟨n, rfl, h1, h2⟩ := h.int_inv Try.underlying5
  simp only [IntKind.min, IntKind.max, IntKind.signed, IntKind.bits] at h1 h2
  exact ⟨n, rfl, by simpa using h1, by simp at h2; omega⟩
theorem own : ownKnob Try.prog.godebug = none := by kernel_rfl
end Go.Proofs.Ytaepdkjfaeepmaa
