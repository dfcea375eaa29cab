/- Texts joined: PerLd. No conditions. -/
import Derived.Test.YtjdhgaflenhljaaGreatDoorCards
import Derived.Test.YtjdhgaflenhljaaGreatDoorTie
import Derived.Test.YtjdhgaflenhljaaGreatDoorMrEE
import Derived.Test.YtjdhgaflenhljaaGreatDoorMrYB
import Derived.ProofKit
import Derived.OpenShut
import Derived.LaidMore
import Derived.Deep.DeepHandedRow
/- What the row's list gives: the package variable of functions. No conditions. -/
set_option linter.unusedSimpArgs false
set_option linter.unusedVariables false
namespace Go.Proofs.YtjdhgaflenhljaaGreatDoor
open Go Go.Proofs Go.Abs Go.RowKit

theorem own : ownKnob Tryz.prog.godebug = none := by kernel_rfl
theorem gKinds : Tryz.prog.globalNamed "signatory/policies.kinds" = some 0 := by kernel_rfl
theorem tKinds : (Tryz.prog.globals[0]?).map (·.type) = some 123 := by kernel_rfl
theorem cellsF : Tryz.prog.cellsOf 65 = 1 := by kernel_rfl
theorem cellsA : Tryz.prog.cellsOf 123 = 5 := by kernel_rfl
set_option maxRecDepth 100000 in
theorem kinds_of_laid {W : World} (h : laidMetH Tryz.prog [("signatory/policies.kinds", Rows.laid_signatory_policies_kinds)] W) :
    ∀ i f, [122, 123, 124, 125, 126][i]? = some f → W.cell? ⟨0, i, none⟩ = some (.func (.func f) #[] #[]) := by
  obtain ⟨g, t, cs, fuel, p, hg, ht, hv, hd⟩ := h.funcs (List.mem_singleton.2 rfl)
  obtain rfl := Option.some.inj (gKinds.symm.trans hg)
  obtain rfl := Option.some.inj (tKinds.symm.trans ht)
  obtain ⟨xs, m, rfl, hx, hl, hn, hi⟩ := DataW.trod_array Tryz.underlying123 hd
  have hxs : xs.map (·.1) = [.held [115, 105, 103, 110, 97, 116, 111, 114, 121, 47, 112, 111, 108, 105, 99, 105, 101, 115, 46, 107, 105, 110, 100, 115, 36, 49], .held [115, 105, 103, 110, 97, 116, 111, 114, 121, 47, 112, 111, 108, 105, 99, 105, 101, 115, 46, 107, 105, 110, 100, 115, 36, 50], .held [115, 105, 103, 110, 97, 116, 111, 114, 121, 47, 112, 111, 108, 105, 99, 105, 101, 115, 46, 107, 105, 110, 100, 115, 36, 51], .held [115, 105, 103, 110, 97, 116, 111, 114, 121, 47, 112, 111, 108, 105, 99, 105, 101, 115, 46, 107, 105, 110, 100, 115, 36, 52], .held [115, 105, 103, 110, 97, 116, 111, 114, 121, 47, 112, 111, 108, 105, 99, 105, 101, 115, 46, 107, 105, 110, 100, 115, 36, 53]] := by
    have := congrArg Prod.fst hx
    exact (DataW.agg.inj this).symm
  rw [cellsA] at hl
  rw [cellsF] at hi
  intro i f hf
  have hi5 : i < 5 := by have := (List.getElem?_eq_some_iff.1 hf).1; simpa using this
  have h1 := hi i hi5
  have hcell := World.var?_cell hg hv i
  rw [hcell]
  have h5 : cs.size = 5 := by simpa using hl
  have hil : i < cs.size := by omega
  have hv1 : cs[i]? = some cs[i] := Array.getElem?_eq_getElem hil
  have hdt : (cs.toList.drop (i * 1)).take 1 = [cs[i]] := by
    rw [Nat.mul_one, List.drop_eq_getElem_cons (by simpa using hil)]
    simp
  rw [hdt] at h1
  rw [hv1]
  have key : ∀ b r, (xs.map (·.1))[i]? = some (.held (b :: r)) → ((List.range Tryz.prog.funcs.size).filter fun f => (Tryz.prog.funcs[f]?).any (·.name.toUTF8.data.toList == b :: r)) = [f] → cs[i] = .func (.func f) #[] #[] := fun b r e h2 => by
    rw [List.getElem?_map] at e
    obtain ⟨y, hy, hy2⟩ := Option.map_eq_some_iff.1 e
    obtain ⟨y1, q⟩ := y
    simp only at hy2
    subst hy2
    rw [hy] at h1
    exact func_of_trod Tryz.underlying65 h2 h1
  rw [hxs] at key
  congr 1
  match i, hi5, hf with
  | 0, _, hf => cases hf; exact key _ _ rfl (by kernel_rfl)
  | 1, _, hf => cases hf; exact key _ _ rfl (by kernel_rfl)
  | 2, _, hf => cases hf; exact key _ _ rfl (by kernel_rfl)
  | 3, _, hf => cases hf; exact key _ _ rfl (by kernel_rfl)
  | 4, _, hf => cases hf; exact key _ _ rfl (by kernel_rfl)
/-- What the walks ask of the package variables. -/
def Gk : Nat → Option (List AV) := fun g => if g = 0 then some kindsC else none
theorem Gk0 : Gk 0 = some kindsC := rfl
theorem glob_of_laid {W : World} (h : laidMetH Tryz.prog [("signatory/policies.kinds", Rows.laid_signatory_policies_kinds)] W) : ∀ g cs, Gk g = some cs → VR (gh0 W) (.eptr cs) (.pointer (some ⟨g, 0, none⟩)) := fun g cs e => by
  unfold Gk at e
  split at e
  · rename_i hg
    subst hg
    cases e
    exact glob_funcs (kinds_of_laid h)
  · cases e
/-- A world for the witness: the settled one, the table holding what its initialiser lays. -/
noncomputable def laidWorld (os : Os) : World :=
  { World.holding Tryz.prog os ⟨#[], #[], []⟩ with heap := (World.holding Tryz.prog os ⟨#[], #[], []⟩).heap.modify 0 fun
      | .cells _ t frozen => .cells #[.func (.func 122) #[] #[], .func (.func 123) #[] #[], .func (.func 124) #[] #[], .func (.func 125) #[] #[], .func (.func 126) #[] #[]] t frozen
      | o => o }
end Go.Proofs.YtjdhgaflenhljaaGreatDoor
