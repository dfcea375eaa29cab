/- Texts joined: AbsQb. No conditions. -/
import Derived.Test.YtjdhgaflenhljaaGreatDoorMrY
/- Statements of functions that read package variables: the form closed. It says nothing of any program; no conditions. -/
set_option linter.unusedSimpArgs false
set_option linter.unusedVariables false
namespace Go.Abs
open Go Go.RowKit

section
variable {H : Type} {enc : TypeId × Value → H} {P : Program} {w : World} {base : Nat} {spare : Nat → Bool} {held : Bool} {L : List TypeId} {G : Gh}
/-- The start, package variables being known. -/
theorem inv1 {Γ : Nat → Option (List AV)} (w : World) (hΓ : ∀ g cs, Γ g = some cs → VR (gh0 w) (.eptr cs) (.pointer (some ⟨g, 0, none⟩))) : Inv Γ (gh0 w) [] w :=
  let h := inv0 w
  { below := h.below, drw := h.drw, fix := h.fix, obj := h.obj, domρ := h.domρ, domA := h.domA, inj := h.inj, base := h.base, sep := h.sep, arB := h.arB, arI := h.arI, lp := h.lp, lpB := h.lpB, dsI := h.dsI, glob := hΓ }
/-- A package variable that holds functions. -/
theorem glob_funcs {w : World} {g : Nat} {fs : List FuncId} (h : ∀ i f, fs[i]? = some f → w.cell? ⟨g, i, none⟩ = some (.func (.func f) #[] #[])) : VR (gh0 w) (.eptr (fs.map fun f => .func f [] [])) (.pointer (some ⟨g, 0, none⟩)) := by
  refine .eptr (fun j => .func (.func (fs.getD j 0)) #[] #[]) (fun j c e => ?_) fun j c e => ?_
  · rw [List.getElem?_map] at e
    obtain ⟨f, hf, rfl⟩ := Option.map_eq_some_iff.1 e
    show w.cell? ⟨g, 0 + j, none⟩ = _
    rw [Nat.zero_add, h j f hf, List.getD_eq_getElem?_getD, hf]; rfl
  · rw [List.getElem?_map] at e
    obtain ⟨f, hf, rfl⟩ := Option.map_eq_some_iff.1 e
    rw [List.getD_eq_getElem?_getD, hf]
    exact .func rfl rfl (fun j c e => by simp at e) fun j c e => by simp at e

/-- **A law's contract, where package variables are known.** -/
theorem contract_ofG {f : FuncId} {fn : Func} {s : ChangeSpec} (L : List TypeId) (hF : lawFacts P L fn = true) (hvars : s.vars = [])
    {W : World} {base : Nat} {args : Array Value} {ds gs : List (DataW H)} {before : List MemPlace} (hs0 : ∀ ds : List (DataW H), ds.length = fn.params.size → s.fn H ds = { results := [.lit (.bool true)], args := ds })
    (hval : ∀ (j : Nat) t v, fn.params[j]? = some t → args[j]? = some v → Value.okWide P W .any base t v)
    (hW : DataW.Whole enc P fn.params.toList s.vars false W args.toList ds gs before)
    (Γ : Nat → Option (List AV)) (hΓ : ∀ g cs, Γ g = some cs → VR (gh0 W) (.eptr cs) (.pointer (some ⟨g, 0, none⟩)))
    (HC : TypedAll P maxLen fn.params.toList (ds.map ofD) → ACalls P Γ f (ds.map ofD) [] fun v _ => v = .bool true) :
    Calls P f args W fun e W' => ∃ v, e = .returned v ∧ s.post enc P fn false true false false W args v W' := by
  simp only [lawFacts, Bool.and_eq_true, List.all_eq_true, decide_eq_true_eq] at hF
  obtain ⟨⟨⟨hlo, hL⟩, hts⟩, hres⟩ := hF
  have hW0 := hW
  obtain ⟨p, q, hA, hV, rfl, hfz, hnd⟩ := hW
  rw [hvars] at hV
  obtain ⟨rfl, rfl⟩ := ChangeShapes.trodVars_none hV
  obtain ⟨h1, h2, h3⟩ := trodAll_VR (base := base) hL _ _ _ _ (fun t ht => (hts t ht).1.1) (fun j t v e e' => hval j t v (by simpa using e) (by simpa using e')) hA
  have hs : s.fn H (ds ++ []) = { results := [.lit (.bool true)], args := ds } := by rw [List.append_nil]; exact hs0 ds (by have := h1.length; simpa using this.symm)
  refine ((HC h1).2 (gh0 W) W args (inv1 W hΓ) (VRs.of_get (by simpa using h2) fun j c v e e' => h3 j c v e (by simpa using e'))).mono fun e W' hr => ?_
  obtain ⟨v, G', av, h', rfl, k1, k2, k3, rfl⟩ := hr
  cases k3
  have hbel : Below W.heap.size W W' := by have := k2.below; rw [k1.w0] at this; exact this
  have hlt := hA.lt
  have hrt : ∀ (b : Nat) (sp : Nat → Bool) (hd : Bool), DataW.TrodAll enc P W' b sp hd fn.resultTypes.toList ((Value.bool true).resultList fn.resultTypes.size) [.lit (.bool true)] [] := fun b sp hd => by
    have : fn.resultTypes.size = fn.resultTypes.toList.length := by simp
    rw [this]
    revert hres
    generalize fn.resultTypes.toList = rl
    intro hres
    split at hres
    · split at hres
      · rename_i hu
        exact ⟨[], [], ⟨1, by simp [DataW.trod, hu, Value.cells]⟩, rfl, rfl⟩
      · cases hres
    · cases hres
  refine ⟨_, rfl, ds, [], p ++ [], [], p, [], hW0, ?_, ?_, ?_, hbel.frame _, fun h => by cases h⟩
  · rw [hs]; exact hrt _ _ _
  · rw [hs]; exact below_trodAll hlo hbel _ _ _ _ (fun t ht => ⟨(hts t ht).1.2, (hts t ht).2⟩) hlt hA
  · rw [hs, hvars]; rfl

end
end Go.Abs
