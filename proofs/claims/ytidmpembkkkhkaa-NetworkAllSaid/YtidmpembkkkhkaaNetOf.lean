/- What is read at the statements' arguments, as nets, packets, things that happen. No conditions. -/
import Derived.Test.YtidmpembkkkhkaaNetI
import Derived.Test.YtidmpembkkkhkaaAbsQ
set_option linter.unusedSimpArgs false
set_option linter.unusedVariables false
namespace Go.Proofs.Ytidmpembkkkhkaa
open Go Go.Proofs Go.Abs Go.RowKit
set_option linter.unusedVariables false

theorem byte_of {v : AV} (h : Typed Try.prog maxLen 5 v) : ∃ b, v = encB b := by
  obtain ⟨n, rfl, h1, h2⟩ := h.int_inv Try.underlying5
  simp only [IntKind.min, IntKind.max, IntKind.signed, IntKind.bits] at h1 h2
  obtain ⟨m, rfl⟩ := Int.eq_ofNat_of_zero_le (show 0 ≤ n by simpa using h1)
  have h3 : m < 256 := by simp at h2; omega
  refine ⟨UInt8.ofNat m, ?_⟩
  rw [encB, UInt8.toNat_ofNat', Nat.mod_eq_of_lt h3]
theorem bytes_of {v : AV} (h : Typed Try.prog maxLen 26 v) : ∃ l : List UInt8, v = .sl (l.map encB) .free ∧ l.length ≤ 9223372036854775807 := by
  obtain ⟨rows, rfl, hl, hr⟩ := h.sl_inv Try.underlying26
  obtain ⟨l, rfl, hq⟩ := list_of (enc := encB) (Q := fun _ => True) fun r hm => by
    obtain ⟨b, e⟩ := byte_of (hr r hm)
    exact ⟨b, e, trivial⟩
  exact ⟨l, rfl, by simpa [maxLen] using hl⟩
theorem pkt_of {v : AV} (h : Typed Try.prog maxLen 28 v) : ∃ p : Pk, v = encK p := by
  obtain ⟨ps, rfl, hps⟩ := h.struct_inv Try.underlying28
  obtain ⟨a, r1, rfl, ha, h1⟩ := hps.cons_inv
  obtain ⟨b, r2, rfl, hb, h2⟩ := h1.cons_inv
  obtain ⟨c, r3, rfl, hc, h3⟩ := h2.cons_inv
  obtain rfl := h3.nil_inv
  obtain ⟨p, rfl, p1, p2⟩ := ha.int_inv Try.underlying3
  obtain ⟨n, rfl, n1, n2⟩ := hb.int_inv Try.underlying3
  obtain ⟨d, rfl, _⟩ := bytes_of hc
  exact ⟨⟨p, n, d⟩, by simp [encK, AV.cells]⟩
theorem link_of {v : AV} (h : Typed Try.prog maxLen 55 v) : ∃ p : Int × Int, v = encL p := by
  obtain ⟨ps, rfl, hl, hp⟩ := h.array_inv Try.underlying55
  match ps, hl with
  | [a, b], _ =>
    obtain ⟨p, rfl, p1, p2⟩ := (hp a (by simp)).int_inv Try.underlying3
    obtain ⟨n, rfl, n1, n2⟩ := (hp b (by simp)).int_inv Try.underlying3
    exact ⟨(p, n), by simp [encL, AV.cells]⟩
theorem net_of {v : AV} (h : Typed Try.prog maxLen 25 v) : ∃ n : Nt, v = encN n ∧ n.q.length ≤ 9223372036854775807 ∧ n.a.length ≤ 9223372036854775807 := by
  obtain ⟨ps, rfl, hps⟩ := h.struct_inv Try.underlying25
  obtain ⟨a, r1, rfl, ha, h1⟩ := hps.cons_inv
  obtain ⟨b, r2, rfl, hb, h2⟩ := h1.cons_inv
  obtain rfl := h2.nil_inv
  obtain ⟨rows, rfl, hl, hr⟩ := ha.sl_inv Try.underlying22
  obtain ⟨l, rfl, hq⟩ := list_of (enc := encK) (Q := fun _ => True) fun r hm => by
    obtain ⟨b, e⟩ := pkt_of (hr r hm)
    exact ⟨b, e, trivial⟩
  obtain ⟨rows, rfl, hl', hr'⟩ := hb.sl_inv Try.underlying23
  obtain ⟨m, rfl, hq'⟩ := list_of (enc := encL) (Q := fun _ => True) fun r hm => by
    obtain ⟨b, e⟩ := link_of (hr' r hm)
    exact ⟨b, e, trivial⟩
  exact ⟨⟨l, m⟩, by simp [encN, AV.cells], by simpa [maxLen] using hl, by simpa [maxLen] using hl'⟩
theorem u8_of {v : AV} (h : Typed Try.prog maxLen 5 v) : ∃ m : Int, v = .int .u8 m ∧ 0 ≤ m ∧ m ≤ 255 := by
  obtain ⟨n, rfl, h1, h2⟩ := h.int_inv Try.underlying5
  simp only [IntKind.min, IntKind.max, IntKind.signed, IntKind.bits] at h1 h2
  exact ⟨n, rfl, by simpa using h1, by simp at h2; omega⟩
theorem mv_of {v : AV} (h : Typed Try.prog maxLen 52 v) : ∃ m : Mv, v = encM m ∧ MvOK m := by
  obtain ⟨ps, rfl, hps⟩ := h.struct_inv Try.underlying52
  obtain ⟨a, r1, rfl, ha, h1⟩ := hps.cons_inv
  obtain ⟨b, r2, rfl, hb, h2⟩ := h1.cons_inv
  obtain ⟨c, r3, rfl, hc, h3⟩ := h2.cons_inv
  obtain ⟨d, r4, rfl, hd, h4⟩ := h3.cons_inv
  obtain ⟨e, r5, rfl, he, h5⟩ := h4.cons_inv
  obtain rfl := h5.nil_inv
  obtain ⟨a, rfl, a1, a2⟩ := u8_of ha
  obtain ⟨b, rfl, b1, b2⟩ := u8_of hb
  obtain ⟨c, rfl, c1, c2⟩ := u8_of hc
  obtain ⟨d, rfl, d1, d2⟩ := u8_of hd
  obtain ⟨e, rfl⟩ := byte_of he
  exact ⟨⟨a, b, c, d, e⟩, by simp [encM, AV.cells, encB], ⟨a1, a2⟩, ⟨b1, b2⟩, ⟨c1, c2⟩, ⟨d1, d2⟩⟩
theorem own : ownKnob Try.prog.godebug = none := by kernel_rfl
end Go.Proofs.Ytidmpembkkkhkaa
