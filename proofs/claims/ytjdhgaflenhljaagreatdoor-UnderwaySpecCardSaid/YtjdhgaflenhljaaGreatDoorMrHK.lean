/- Texts joined: UnOf. No conditions. -/
import Derived.Test.YtjdhgaflenhljaaGreatDoorMrEQ
import Derived.Test.YtjdhgaflenhljaaGreatDoorMrHG
/- What is read at the statements' arguments, as versions, answers. No conditions. -/
set_option linter.unusedSimpArgs false
set_option linter.unusedVariables false
namespace Go.Proofs.YtjdhgaflenhljaaGreatDoor
open Go Go.Proofs Go.Abs Go.RowKit
set_option linter.unusedVariables false

theorem ver_of {v : AV} (h : Typed Tryz.prog maxLen 39 v) : ∃ x : Vs, v = encV x ∧ ShP x.p := by
  obtain ⟨ps, rfl, hps⟩ := h.struct_inv Tryz.underlying39
  obtain ⟨a1, r1, rfl, p1, h1⟩ := hps.cons_inv
  obtain ⟨a2, r2, rfl, p2, h2⟩ := h1.cons_inv
  obtain ⟨a3, r3, rfl, p3, h3⟩ := h2.cons_inv
  obtain ⟨a4, r4, rfl, p4, h4⟩ := h3.cons_inv
  obtain rfl := h4.nil_inv
  obtain ⟨n1, rfl, _⟩ := int_of p1
  obtain ⟨n2, rfl, _⟩ := int_of p2
  obtain ⟨n3, rfl, _⟩ := int_of p3
  obtain ⟨p, rfl, hp⟩ := pol_of p4
  exact ⟨⟨n1, n2, n3, p⟩, by simp [encV, encPol, AV.cells], hp⟩
theorem vers_of {v : AV} (h : Typed Tryz.prog maxLen 22 v) : ∃ l : List Vs, v = .sl (l.map encV) .free ∧ FwV l := by
  obtain ⟨rows, rfl, hl, hr⟩ := h.sl_inv Tryz.underlying22
  obtain ⟨l, rfl, hq⟩ := list_of (enc := encV) (Q := fun x => ShP x.p) fun r hm => ver_of (hr r hm)
  exact ⟨l, rfl, by simpa [maxLen] using hl, hq⟩
end Go.Proofs.YtjdhgaflenhljaaGreatDoor
