/- Texts joined: PerOf. No conditions. -/
import Derived.Test.YtjdhgaflenhljaaGreatDoorMrEJ
import Derived.Test.YtjdhgaflenhljaaGreatDoorMrY
/- What is read at the statements' arguments, as policies, holders. No conditions. -/
set_option linter.unusedSimpArgs false
set_option linter.unusedVariables false
namespace Go.Proofs.YtjdhgaflenhljaaGreatDoor
open Go Go.Proofs Go.Abs Go.RowKit
set_option linter.unusedVariables false

theorem int_of {v : AV} (h : Typed Tryz.prog maxLen 3 v) : ∃ n : Int, v = .int .i64 n ∧ -9223372036854775808 ≤ n ∧ n ≤ 9223372036854775807 := by
  obtain ⟨n, rfl, h1, h2⟩ := h.int_inv Tryz.underlying3
  simp only [IntKind.min, IntKind.max, IntKind.signed, IntKind.bits] at h1 h2
  exact ⟨n, rfl, by simp at h1; omega, by simp at h2; omega⟩
theorem text_of {v : AV} (h : Typed Tryz.prog maxLen 9 v) : ∃ s : Tx, v = .str ⟨⟨s⟩⟩ ∧ s.length ≤ 9223372036854775807 := by
  obtain ⟨⟨⟨s⟩⟩, rfl, h1⟩ := h.str_inv Tryz.underlying9
  exact ⟨s, rfl, by simpa [maxLen, ByteArray.size] using h1⟩
theorem texts_of {v : AV} (h : Typed Tryz.prog maxLen 31 v) : ∃ l : List Tx, v = .sl (encT l) .free ∧ l.length ≤ 9223372036854775807 ∧ ∀ s ∈ l, s.length ≤ 9223372036854775807 := by
  obtain ⟨rows, rfl, hl, hr⟩ := h.sl_inv Tryz.underlying31
  obtain ⟨l, rfl, hq⟩ := list_of (enc := fun s : Tx => AV.str ⟨⟨s⟩⟩) (Q := fun s => s.length ≤ 9223372036854775807) fun r hm => by
    obtain ⟨b, e, hb⟩ := text_of (hr r hm)
    exact ⟨b, e, hb⟩
  exact ⟨l, rfl, by simpa [maxLen] using hl, hq⟩
theorem expr_of_k : ∀ (k : Nat) (v : AV), SizeOf.sizeOf v < k → Typed Tryz.prog maxLen 35 v → ∃ x, v = encX x ∧ ShX x
  | 0, _, hk, _ => absurd hk (Nat.not_lt_zero _)
  | k + 1, v, hk, h => by
    obtain ⟨ps, rfl, hps⟩ := h.struct_inv Tryz.underlying35
    obtain ⟨a1, r1, rfl, p1, h1⟩ := hps.cons_inv
    obtain ⟨a2, r2, rfl, p2, h2⟩ := h1.cons_inv
    obtain ⟨a3, r3, rfl, p3, h3⟩ := h2.cons_inv
    obtain ⟨a4, r4, rfl, p4, h4⟩ := h3.cons_inv
    obtain ⟨a5, r5, rfl, p5, h5⟩ := h4.cons_inv
    obtain rfl := h5.nil_inv
    obtain ⟨n1, rfl, _⟩ := int_of p1
    obtain ⟨n2, rfl, b1, b2⟩ := int_of p2
    obtain ⟨n3, rfl, _⟩ := int_of p3
    obtain ⟨s, rfl, hs⟩ := text_of p4
    obtain ⟨rows, rfl, hl, hr⟩ := p5.sl_inv Tryz.underlying33
    obtain ⟨l, rfl, hq⟩ := list_of (enc := encX) (Q := ShX) fun r hm => by
      refine expr_of_k k r ?_ (hr r hm)
      have := List.sizeOf_lt_of_mem hm
      simp only [List.flatMap_cons, AV.cells, List.flatMap_nil, List.append_nil, List.cons_append, List.nil_append, AV.agg.sizeOf_spec, List.cons.sizeOf_spec, AV.sl.sizeOf_spec, List.nil.sizeOf_spec] at hk
      omega
    exact ⟨.mk n1 n2 n3 s l, by simp [encX_mk, AV.cells], .mk (by simpa [maxLen] using hl) hq hs b1 b2⟩
theorem expr_of {v : AV} (h : Typed Tryz.prog maxLen 35 v) : ∃ x, v = encX x ∧ ShX x := expr_of_k _ v (Nat.lt_succ_self _) h
theorem rule_of {v : AV} (h : Typed Tryz.prog maxLen 60 v) : ∃ r : Rl, v = encRl r ∧ (ShX r.x ∧ r.kind.length ≤ 9223372036854775807) := by
  obtain ⟨ps, rfl, hps⟩ := h.struct_inv Tryz.underlying60
  obtain ⟨a1, r1, rfl, p1, h1⟩ := hps.cons_inv
  obtain ⟨a2, r2, rfl, p2, h2⟩ := h1.cons_inv
  obtain ⟨a3, r3, rfl, p3, h3⟩ := h2.cons_inv
  obtain ⟨a4, r4, rfl, p4, h4⟩ := h3.cons_inv
  obtain rfl := h4.nil_inv
  obtain ⟨s, rfl, hs⟩ := text_of p1
  obtain ⟨n2, rfl, _⟩ := int_of p2
  obtain ⟨n3, rfl, _⟩ := int_of p3
  obtain ⟨x, rfl, hx⟩ := expr_of p4
  exact ⟨⟨s, n2, n3, x⟩, by simp [encRl, AV.cells], hx, hs⟩
theorem rules_of {v : AV} (h : Typed Tryz.prog maxLen 32 v) : ∃ l : List Rl, v = .sl (l.map encRl) .free ∧ l.length ≤ 9223372036854775807 ∧ ∀ r ∈ l, ShX r.x ∧ r.kind.length ≤ 9223372036854775807 := by
  obtain ⟨rows, rfl, hl, hr⟩ := h.sl_inv Tryz.underlying32
  obtain ⟨l, rfl, hq⟩ := list_of (enc := encRl) (Q := fun r => ShX r.x ∧ r.kind.length ≤ 9223372036854775807) fun r hm => rule_of (hr r hm)
  exact ⟨l, rfl, by simpa [maxLen] using hl, hq⟩
theorem pol_of {v : AV} (h : Typed Tryz.prog maxLen 37 v) : ∃ p : Pol, v = encPol p ∧ ShP p := by
  obtain ⟨ps, rfl, hps⟩ := h.struct_inv Tryz.underlying37
  obtain ⟨a1, r1, rfl, p1, h1⟩ := hps.cons_inv
  obtain ⟨a2, r2, rfl, p2, h2⟩ := h1.cons_inv
  obtain ⟨a3, r3, rfl, p3, h3⟩ := h2.cons_inv
  obtain ⟨a4, r4, rfl, p4, h4⟩ := h3.cons_inv
  obtain ⟨a5, r5, rfl, p5, h5⟩ := h4.cons_inv
  obtain ⟨a6, r6, rfl, p6, h6⟩ := h5.cons_inv
  obtain rfl := h6.nil_inv
  obtain ⟨s, rfl, hs⟩ := text_of p1
  obtain ⟨k, rfl, k1, k2⟩ := texts_of p2
  obtain ⟨o, rfl, o1, o2⟩ := texts_of p3
  obtain ⟨rs, rfl, q1, q2⟩ := rules_of p4
  obtain ⟨x, rfl, hx⟩ := expr_of p5
  obtain ⟨m, rfl, _⟩ := int_of p6
  exact ⟨⟨s, k, o, rs, x, m⟩, by simp [encPol, polC, AV.cells], hs, k1, k2, o1, o2, q1, fun r hr => (q2 r hr).1, fun r hr => (q2 r hr).2, hx⟩
end Go.Proofs.YtjdhgaflenhljaaGreatDoor
